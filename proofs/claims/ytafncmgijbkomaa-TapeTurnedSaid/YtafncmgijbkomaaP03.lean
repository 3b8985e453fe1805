/- Proved here: how tapes and places lie in memory; the place behind another one; the index of a place; the last place; how many places, and which; the walk over all places, a part of the proofs about the tape laws. Conditions: those that each theorem names, no others. -/
import Derived.Test.YtafncmgijbkomaaP01
import Derived.WalkKit
import Derived.WalkSpells
import Derived.WalkLawsBesides
import Derived.Below
import Derived.Deep.QuietTactic
import Derived.BigQuiet
import Derived.Deep.Light
import Derived.Test.YtafncmgijbkomaaP32
import Derived.Test.YtafncmgijbkomaaP02
import Derived.RangeFuncNested
import Derived.RangeFuncBound
import Derived.RangeFuncCalls
import Derived.RangeFuncLeaves
import Derived.Shelf.Abstract
import Derived.OwnWalkIn
import Derived.TacticsInMore
import Derived.LoopNIn
import Derived.LoopIn
import Derived.RangeFuncOne
import Derived.RangeFuncStops
import Derived.WalkMore
set_option linter.unusedSimpArgs false
set_option linter.unusedVariables false
namespace Go.Proofs.Ytafncmgijbkomaa
open Go.RowKit
/-- a slice of strings, as it reads -/
def Strs (w : World) (A : Option Addr) (ts : List ByteArray) : Prop :=
  ∀ k s, ts[k]? = some s → ∃ b off, A = some ⟨b, off, none⟩ ∧ b < w.heap.size ∧ b ≤ w.heap.size ∧ w.cell? ⟨b, off + k, none⟩ = some (.string s)
theorem Strs.ext {w w' : World} {A : Option Addr} {ts : List ByteArray} (h : Strs w A ts) (hb : Below w.heap.size w w') : Strs w' A ts := fun k p hk => by
  obtain ⟨b, off, h0, h1, h2, h3⟩ := h k p hk
  have hs := hb.size
  exact ⟨b, off, h0, by omega, by omega, (hb.cell (p := ⟨b, _, none⟩) h1).trans h3⟩
theorem Strs.form {w : World} {A : Option Addr} {ts : List ByteArray} (h : Strs w A ts) (hk : 0 < ts.length) : ∃ b o, A = some ⟨b, o, none⟩ ∧ b < w.heap.size := by
  obtain ⟨b, o, he, hl, _⟩ := h 0 ts[0] (by simp)
  exact ⟨b, o, he, hl⟩
theorem Strs.at {w : World} {b o : Nat} {ts : List ByteArray} (h : Strs w (some ⟨b, o, none⟩) ts) {k : Nat} (hk : k < ts.length) : w.cell? ⟨b, o + k, none⟩ = some (.string ts[k]) := by
  obtain ⟨b', o', he, _, _, h0⟩ := h k ts[k] (by simp [hk])
  injection he with he
  injection he with e1 e2 _
  subst e1 e2
  exact h0
/-- a tape's letters, less 'a' -/
def lt (s : ByteArray) : List Int := s.data.toList.map (fun b => (b.toNat : Int) - 97)
theorem lt_len (s : ByteArray) : (lt s).length = s.size := by simp [lt]
theorem lt_at (s : ByteArray) (k : Nat) (hk : k < s.size) : (lt s)[k]? = some ((s[k].toNat : Int) - 97) := by
  unfold lt
  rw [List.getElem?_map, List.getElem?_eq_getElem (by simpa using hk)]
  rfl
def lts (ts : List ByteArray) : List (List Int) := ts.map lt
/-- the cells of a place -/
def plC (p : List Nat) : Array Value := #[.int .i64 (p.getD 0 0 : Nat), .int .i64 (p.getD 1 0 : Nat), .int .i64 (p.getD 2 0 : Nat)]
def plV (p : List Nat) : Value := .agg (plC p)
/-- a place while a loop turns it -/
def mixP (q p : List Nat) (k : Nat) : List Nat := q.take k ++ p.drop k
theorem mixP_zero (q p : List Nat) : mixP q p 0 = p := by simp [mixP]
theorem mixP_all (q p : List Nat) (h : q.length = p.length) : mixP q p p.length = q := by simp [mixP, ← h]
theorem mixP_at (q p : List Nat) (k : Nat) (h : q.length = p.length) (hk : k < p.length) : (mixP q p k).getD k 0 = p[k] := by
  unfold mixP
  rw [List.getD_eq_getElem?_getD, List.getElem?_append_right (by simp; omega), List.length_take, Nat.min_eq_left (by omega), Nat.sub_self, List.getElem?_drop, Nat.add_zero, List.getElem?_eq_getElem hk]
  rfl
theorem plC_at (p : List Nat) (k : Nat) (hk : k < 3) : (plC p)[k]? = some (.int .i64 (p.getD k 0 : Nat)) := by
  match k, hk with
  | 0, _ => rfl
  | 1, _ => rfl
  | 2, _ => rfl
theorem mixP_step (q p : List Nat) (k : Nat) (h : q.length = p.length) (hk : k < p.length) : mixP q p (k + 1) = (mixP q p k).set k q[k] := by
  unfold mixP
  apply List.ext_getElem
  · simp; omega
  · intro i h1 h2
    rw [List.getElem_set]
    by_cases e : k = i
    · subst e; rw [if_pos rfl, List.getElem_append_left (by simp; omega), List.getElem_take]
    · rw [if_neg e]
      by_cases e2 : i < k
      · rw [List.getElem_append_left (by simp; omega), List.getElem_append_left (by simp; omega), List.getElem_take, List.getElem_take]
      · rw [List.getElem_append_right (by simp; omega), List.getElem_append_right (by simp; omega)]
        simp only [List.getElem_drop, List.length_take]
        congr 1
        omega
theorem plC_set (p : List Nat) (k v : Nat) (hk : k < p.length) (h3 : p.length ≤ 3) : (plC p).setIfInBounds k (.int .i64 (v : Nat)) = plC (p.set k v) := by
  unfold plC
  have hk3 : k < 3 := by omega
  match k, hk3 with
  | 0, _ => simp [List.getElem?_set, hk]
  | 1, _ => simp [List.getElem?_set, hk]
  | 2, _ => simp [List.getElem?_set, hk]
theorem mixP_keep (q p : List Nat) (k : Nat) (h : q.length = p.length) (hk : k < p.length) (e : q[k] = p[k]) : mixP q p (k + 1) = mixP q p k := by
  rw [mixP_step q p k h hk, e]
  apply List.ext_getElem
  · simp
  · intro i h1 h2
    rw [List.getElem_set]
    split
    · rename_i e2; subst e2
      have := mixP_at q p k h hk
      rw [List.getD_eq_getElem?_getD, List.getElem?_eq_getElem h2] at this
      exact this.symm
    · rfl
theorem heap_a (w : World) (o o' : Obj) : ((w.alloc o).alloc o').heap[w.heap.size]? = some o := by
  rw [Below.heap_alloc _ _ _ (by simp)]; exact heap_alloc_new w o
theorem heap_b (w : World) (o o' : Obj) : ((w.alloc o).alloc o').heap[w.heap.size + 1]? = some o' := by
  have := heap_alloc_new (w.alloc o) o'
  simpa using this
theorem set_obj {W : World} {B : Nat} {t : TypeId} {cs : Array Value} (h : W.heap[B]? = some (.cells cs t (0, 0))) (k : Nat) (v : Value) : (W.setCell ⟨B, k, none⟩ v).heap[B]? = some (.cells (cs.setIfInBounds k v) t (0, 0)) :=
  heap_setCell_same W B k cs t v h
theorem obj_at {W : World} {B : Nat} {t : TypeId} {cs : Array Value} (h : W.heap[B]? = some (.cells cs t (0, 0))) (k : Nat) (v : Value) (hk : cs[k]? = some v) : W.cell? ⟨B, k, none⟩ = some v := by
  simp [World.cell?, h, hk]
theorem obj_fz {W : World} {B : Nat} {t : TypeId} {cs : Array Value} (h : W.heap[B]? = some (.cells cs t (0, 0))) (k : Nat) : W.frozen? ⟨B, k, none⟩ = false := by
  simp [World.frozen?, h]
/-- the tapes of a reel -/
def ReelAt (w : World) (R : Nat) (W : Int) (A : Option Addr) (ts : List ByteArray) (c : Nat) : Prop :=
  w.cell? ⟨R, 0, none⟩ = some (.int .i64 W) ∧ w.cell? ⟨R, 1, none⟩ = some (.slice A ts.length c) ∧ R < w.heap.size
theorem ReelAt.ext {w w' : World} {R : Nat} {W : Int} {A : Option Addr} {ts : List ByteArray} {c : Nat} (h : ReelAt w R W A ts c) (hb : Below w.heap.size w w') : ReelAt w' R W A ts c :=
  ⟨(hb.cell (p := ⟨R, _, none⟩) h.2.2).trans h.1, (hb.cell (p := ⟨R, _, none⟩) h.2.2).trans h.2.1, Nat.lt_of_lt_of_le h.2.2 hb.size⟩
theorem nextP_len (ts : List (List Int)) (p : List Nat) (c : Int) (h : p.length = ts.length) : (Tm.nextP ts p c).length = p.length := by
  simp [Tm.nextP, h]
theorem nextP_at (ts : List (List Int)) (p : List Nat) (c : Int) (k : Nat) (h : k < (Tm.nextP ts p c).length) (h1 : k < ts.length) (h2 : k < p.length) : (Tm.nextP ts p c)[k] = if ts[k][p[k]]? = some c then p[k] + 1 else p[k] := by
  simp [Tm.nextP]
end Go.Proofs.Ytafncmgijbkomaa
namespace Go.Proofs.Ytafncmgijbkomaa
open Go.RowKit
/-- no letter is before 'a' -/
def Fine (ts : List ByteArray) : Prop := ∀ k, (h : k < ts.length) → ts[k].size ≤ 1000 ∧ ∀ j, (hj : j < ts[k].size) → 97 ≤ (ts[k][j].toNat : Int) ∧ (ts[k][j].toNat : Int) ≤ 255
theorem plC_lit (p : List Nat) (a b c : Nat) (h0 : p.getD 0 0 = a) (h1 : p.getD 1 0 = b) (h2 : p.getD 2 0 = c) : plC p = #[.int .i64 (a : Nat), .int .i64 (b : Nat), .int .i64 (c : Nat)] := by
  unfold plC; rw [h0, h1, h2]
set_option maxRecDepth 100000 in
set_option maxHeartbeats 1000000 in
theorem next_any (R : Nat) (W : Int) (A : Option Addr) (ts : List ByteArray) (cap : Nat) (p : List Nat) (c : Int) (w : World) (hR : ReelAt w R W A ts cap) (hA : Strs w A ts) (h3 : ts.length ≤ 3) (hp : Tm.IsPl (lts ts) p) (hf : Fine ts) :
    Calls Try.prog 56 #[.pointer (some ⟨R, 0, none⟩), plV p, .int .i64 c] w (Gives w (plV (Tm.nextP (lts ts) p c))) := by
  have hpl : p.length = ts.length := by rw [hp.len]; simp [lts]
  have hql := nextP_len (lts ts) p c hp.len
  obtain ⟨r0, r1, rl⟩ := hR
  have HQ := hide (rfl : Tm.nextP (lts ts) p c = Tm.nextP (lts ts) p c)
  generalize hq : Tm.nextP (lts ts) p c = q at *
  have HQE := hide hq
  clear hq HQ
  unfold plV
  have HPL := hide hpl
  have HQL := hide hql
  have hp3 : p.length ≤ 3 := by omega
  have h3' : (ts.length : Int) ≤ 3 := by omega
  have HP0 := hide (mixP_zero q p)
  clear hpl hql
  have hall : plC p = #[.int .i64 (p.getD 0 0 : Nat), .int .i64 (p.getD 1 0 : Nat), .int .i64 (p.getD 2 0 : Nat)] := rfl
  rw [hall]
  clear hall
  generalize hx0 : p.getD 0 0 = x0
  generalize hx1 : p.getD 1 0 = x1
  generalize hx2 : p.getD 2 0 = x2
  have HX := hide (plC_lit p x0 x1 x2 hx0 hx1 hx2)
  clear hx0 hx1 hx2
  go_enter Try.func56, Try.ntmps56
  go_wp2
  go_loopw [7, 8, 15] (fun _ _ i wr => ∃ k : Nat, k ≤ ts.length ∧ i = .int .i64 k ∧ wr.heap[w.heap.size]? = some (.cells (plC (mixP q p k)) 86 (0, 0)) ∧ wr.heap[w.heap.size + 1]? = some (.cells #[.int .i64 0, .int .i64 0, .int .i64 0] 86 (0, 0)) ∧ Below w.heap.size w wr) (fun _ _ i _ => ts.length - (intOf i).toNat)
  case atStart =>
    refine ⟨0, Nat.zero_le _, rfl, ?_, ?_, by (repeat (first | exact Below.refl _ _ | assumption | (refine below_gr ?_ (by (first | omega | (simp only [zz] at *; omega))) _) | (refine below_alloc ?_ (by (first | omega | (simp only [zz] at *; omega))) _) | (refine Below.setCell ?_ (by (first | omega | (simp only [zz] at *; omega))) _) | refine below_drewN ?_ _ | refine below_drew ?_ | (refine below_step ?_ (by assumption) (by (first | omega | (simp only [zz] at *; omega))))))⟩
    · rw [HP0.out, HX.out]; exact heap_a _ _ _
    · exact heap_b _ _ _
  case round =>
    obtain ⟨k, hk, rfl, hO, hO2, hb⟩ := hrel
    have hsz := hb.size
    have c0 : wr.cell? ⟨R, 0, none⟩ = some (.int .i64 W) := (hb.cell (p := ⟨R, _, none⟩) rl).trans r0
    have c1 : wr.cell? ⟨R, 1, none⟩ = some (.slice A ts.length cap) := (hb.cell (p := ⟨R, _, none⟩) rl).trans r1
    by_cases hlt : k < ts.length
    · obtain ⟨tb, to, rfl, tl⟩ := hA.form (by omega)
      have hs := (hA.ext hb).at hlt
      have hm := mixP_at q p k (by rw [HQL.out]) (by rw [HPL.out]; exact hlt)
      have hc := obj_at hO k _ (plC_at _ k (by omega))
      rw [hm] at hc
      have hfz := obj_fz hO k
      obtain ⟨hs1, hs2⟩ := hf k hlt
      have hkp : k < p.length := by rw [HPL.out]; exact hlt
      have hkq : k < q.length := by rw [HQL.out]; exact hkp
      have HK0 : q[k] = if (lt ts[k])[p[k]]? = some c then p[k] + 1 else p[k] := by
        have h0 := nextP_at (lts ts) p c k (by rw [HQE.out]; exact hkq) (by simpa [lts] using hlt) hkp
        have h1 : (Tm.nextP (lts ts) p c)[k]'(by rw [HQE.out]; exact hkq) = q[k] := by congr 1
        rw [h1] at h0
        simpa [lts] using h0
      have HK := hide HK0
      clear HK0
      have HS := hide (mixP_step q p k (by rw [HQL.out]) hkp)
      have HE := hide (mixP_keep q p k (by rw [HQL.out]) hkp)
      have HM := hide (fun v => plC_set (mixP q p k) k v (by simp [mixP]; omega) (by simp [mixP]; omega))
      have HLA := hide (lt_at ts[k])
      generalize hqk : q[k] = qk at *
      generalize hpk : p[k] = pk at *
      generalize ts[k] = s at *
      clear hqk hpk hm
      by_cases h2 : pk < s.size
      · have hl := HLA.out pk h2
        obtain ⟨ha, hb2⟩ := hs2 pk h2
        by_cases he : (s[pk].toNat : Int) - 97 = c
        · have hqv : qk = pk + 1 := by rw [HK.out, hl, if_pos (by rw [he])]
          have HV := hide hqv
          have heb : ((s[pk].toNat : Int) - 97 == c) = true := by simpa using he
          clear he hqv hl
          go_wp2
          go_roundw
          case measure => simp [intOf]; omega
          refine ⟨k + 1, by omega, by go_num, ?_, ?_, Below.setCell (p := ⟨w.heap.size, k, none⟩) hb (Nat.le_refl _) _⟩
          · rw [HS.out, ← HM.out, HV.out]; exact set_obj hO k _
          · rw [Below.heap_setCell _ _ _ _ (by simp)]; exact hO2
        · have hqv : qk = pk := by rw [HK.out, hl, if_neg (fun g => he (Option.some.inj g))]
          have HV := hide hqv
          have heb : ((s[pk].toNat : Int) - 97 == c) = false := by simpa using he
          clear he hqv hl
          go_wp2
          go_roundw
          case measure => simp [intOf]; omega
          exact ⟨k + 1, by omega, by go_num, by rw [HE.out HV.out]; exact hO, hO2, hb⟩
      · have hqv : qk = pk := by rw [HK.out, List.getElem?_eq_none (by rw [lt_len]; omega), if_neg (by simp)]
        have HV := hide hqv
        clear hqv
        go_wp2
        go_roundw
        case measure => simp [intOf]; omega
        exact ⟨k + 1, by omega, by go_num, by rw [HE.out HV.out]; exact hO, hO2, hb⟩
    · have hkn : k = ts.length := by omega
      have hmq : mixP q p k = q := by rw [hkn, ← HPL.out]; exact mixP_all q p (by rw [HQL.out])
      rw [hmq] at hO
      clear hmq
      obtain ⟨y0, y1, y2, hY⟩ : ∃ y0 y1 y2 : Nat, plC q = #[.int .i64 (y0 : Nat), .int .i64 (y1 : Nat), .int .i64 (y2 : Nat)] := ⟨_, _, _, rfl⟩
      rw [hY] at hO
      have HY := hide hY
      clear hY
      have e0 := obj_at hO 0 _ rfl
      have e1 := obj_at hO 1 _ rfl
      have e2 := obj_at hO 2 _ rfl
      have f0 := obj_at hO2 0 _ rfl
      have f1 := obj_at hO2 1 _ rfl
      have f2 := obj_at hO2 2 _ rfl
      have g0 := obj_fz hO2 0
      have g1 := obj_fz hO2 1
      have g2 := obj_fz hO2 2
      go_wp2
      have s0 := set_obj hO2 0 (.int .i64 (y0 : Nat))
      have s1 := set_obj s0 1 (.int .i64 (y1 : Nat))
      have s2 := set_obj s1 2 (.int .i64 (y2 : Nat))
      have k0 := obj_at s0 0 (.int .i64 (y0 : Nat)) rfl
      have k1 := obj_at s1 1 (.int .i64 (y1 : Nat)) rfl
      have k2 := obj_at s2 2 (.int .i64 (y2 : Nat)) rfl
      refine bodyPost_ret (v := .agg #[.int .i64 (y0 : Nat), .int .i64 (y1 : Nat), .int .i64 (y2 : Nat)]) (by simp [results, Try.results56, go_sem, k0, k1, k2]) rfl (gives_of (by rw [HY.out]) (by (repeat (first | exact Below.refl _ _ | assumption | refine below_drewN ?_ _ | refine below_drew ?_ | refine below_gr ?_ ?_ _ | refine below_alloc ?_ ?_ _ | refine Below.setCell ?_ ?_ _ | refine below_step ?_ (by assumption) ?_ | omega | (simp only [zz] at *; omega)))))
end Go.Proofs.Ytafncmgijbkomaa
namespace Go.Proofs.Ytafncmgijbkomaa
open Go.RowKit
def ixK (ts : List ByteArray) (p : List Nat) (k : Nat) : Nat := Tm.idxP (lts (ts.take k)) (p.take k) 0
theorem idxP_snoc (ts : List (List Int)) (p : List Nat) (t : List Int) (a : Nat) (n : Nat) (h : p.length = ts.length) : Tm.idxP (ts ++ [t]) (p ++ [a]) n = Tm.idxP ts p n * (t.length + 1) + a := by
  induction ts generalizing p n with
  | nil => have : p = [] := List.eq_nil_of_length_eq_zero h; subst this; rfl
  | cons u ts ih =>
    cases p with
    | nil => simp at h
    | cons b p => exact ih p _ (by simpa using h)
theorem ixK_step (ts : List ByteArray) (p : List Nat) (k : Nat) (hk : k < ts.length) (hp : k < p.length) : ixK ts p (k + 1) = ixK ts p k * (ts[k].size + 1) + p[k] := by
  unfold ixK
  rw [List.take_succ_eq_append_getElem hk, List.take_succ_eq_append_getElem hp]
  have : lts (ts.take k ++ [ts[k]]) = lts (ts.take k) ++ [lt ts[k]] := by simp only [lts, List.map_append, List.map_cons, List.map_nil]
  rw [this, idxP_snoc _ _ _ _ _ (by simp [lts]; omega), lt_len]
theorem ixK_le (ts : List ByteArray) (p : List Nat) (k : Nat) (hk : k ≤ ts.length) (hp : ts.length ≤ p.length) (h3 : ts.length ≤ 3) (hs : ∀ k, (h : k < ts.length) → ts[k].size ≤ 8 ∧ p.getD k 0 ≤ 8) : ixK ts p k + 1 ≤ 9 ^ k := by
  induction k with
  | zero => simp [ixK, lts, Tm.idxP]
  | succ k ih =>
    have h1 := ih (by omega)
    have h2 := hs k (by omega)
    rw [ixK_step ts p k (by omega) (by omega)]
    rw [List.getD_eq_getElem?_getD, List.getElem?_eq_getElem (by omega)] at h2
    have h4 : ixK ts p k * (ts[k].size + 1) ≤ ixK ts p k * 9 := Nat.mul_le_mul_left _ (by omega)
    have h5 : p[k] ≤ 8 := h2.2
    rw [Nat.pow_succ]
    omega
theorem ixK_stepD (ts : List ByteArray) (p : List Nat) (h : p.length = ts.length) (k : Nat) (hk : k < ts.length) : ixK ts p (k + 1) = ixK ts p k * (ts[k].size + 1) + p.getD k 0 := by
  rw [ixK_step ts p k hk (by omega), List.getD_eq_getElem?_getD, List.getElem?_eq_getElem (by omega)]; rfl
def Small (ts : List ByteArray) : Prop := ∀ k, (h : k < ts.length) → ts[k].size ≤ 8
theorem isPl_le {ts : List ByteArray} {p : List Nat} (hp : Tm.IsPl (lts ts) p) (k : Nat) (h : k < ts.length) : p.getD k 0 ≤ ts[k].size := by
  induction ts generalizing p k with
  | nil => simp at h
  | cons t ts ih =>
    cases hp with
    | cons h0 r =>
      cases k with
      | zero => simpa [lt_len] using h0
      | succ k => simpa using ih r k (by simpa using h)
set_option maxRecDepth 100000 in
set_option maxHeartbeats 1000000 in
theorem index_any (R : Nat) (W : Int) (A : Option Addr) (ts : List ByteArray) (cap : Nat) (p : List Nat) (w : World) (hR : ReelAt w R W A ts cap) (hA : Strs w A ts) (h3 : ts.length ≤ 3) (hp : Tm.IsPl (lts ts) p) (hf : Small ts) :
    Calls Try.prog 70 #[.pointer (some ⟨R, 0, none⟩), plV p] w (Gives w (.int .i64 (Tm.idxP (lts ts) p 0 : Nat))) := by
  have hpl : p.length = ts.length := by rw [hp.len]; simp [lts]
  have hle := fun k h => isPl_le hp k h
  have hB := fun k (hk : k ≤ ts.length) => ixK_le ts p k hk (by omega) h3 (fun j h => ⟨hf j h, Nat.le_trans (hle j h) (hf j h)⟩)
  have HB := hide hB
  have HLE := hide hle
  have HEND : Hid (ixK ts p ts.length = Tm.idxP (lts ts) p 0) := by
    have : ixK ts p ts.length = Tm.idxP (lts ts) p 0 := by
      unfold ixK; rw [List.take_of_length_le (Nat.le_refl _), List.take_of_length_le (by omega)]
    exact hide this
  obtain ⟨r0, r1, rl⟩ := hR
  unfold plV
  have HPL := hide hpl
  have HS := hide (ixK_stepD ts p hpl)
  have h3' : (ts.length : Int) ≤ 3 := by omega
  have HC := hide (plC_at p)
  clear hpl hle hB hp
  have hall : plC p = #[.int .i64 (p.getD 0 0 : Nat), .int .i64 (p.getD 1 0 : Nat), .int .i64 (p.getD 2 0 : Nat)] := rfl
  rw [hall]
  generalize hx0 : p.getD 0 0 = x0 at hall ⊢
  generalize hx1 : p.getD 1 0 = x1 at hall ⊢
  generalize hx2 : p.getD 2 0 = x2 at hall ⊢
  have HX := hide hall
  clear hall hx0 hx1 hx2
  go_enter Try.func70, Try.ntmps70
  go_wp2
  go_loopw [5, 6, 7, 14] (fun n _ _ i wr => ∃ k : Nat, k ≤ ts.length ∧ i = .int .i64 k ∧ n = .int .i64 (ixK ts p k : Nat) ∧ wr.heap[w.heap.size]? = some (.cells (plC p) 86 (0, 0)) ∧ Below w.heap.size w wr) (fun _ _ _ i _ => ts.length - (intOf i).toNat)
  case atStart =>
    refine ⟨0, Nat.zero_le _, rfl, by simp [ixK, lts, Tm.idxP], ?_, by (repeat (first | exact Below.refl _ _ | assumption | (refine below_gr ?_ (by (first | omega | (simp only [zz] at *; omega))) _) | (refine below_alloc ?_ (by (first | omega | (simp only [zz] at *; omega))) _) | (refine Below.setCell ?_ (by (first | omega | (simp only [zz] at *; omega))) _) | refine below_drewN ?_ _ | refine below_drew ?_ | (refine below_step ?_ (by assumption) (by (first | omega | (simp only [zz] at *; omega))))))⟩
    rw [HX.out]; exact heap_alloc_new _ _
  case round =>
    obtain ⟨k, hk, rfl, rfl, hO, hb⟩ := hrel
    have hsz := hb.size
    have c0 : wr.cell? ⟨R, 0, none⟩ = some (.int .i64 W) := (hb.cell (p := ⟨R, _, none⟩) rl).trans r0
    have c1 : wr.cell? ⟨R, 1, none⟩ = some (.slice A ts.length cap) := (hb.cell (p := ⟨R, _, none⟩) rl).trans r1
    by_cases hlt : k < ts.length
    · obtain ⟨tb, to, rfl, tl⟩ := hA.form (by omega)
      have hs := (hA.ext hb).at hlt
      have hc := obj_at hO k _ (HC.out k (by omega))
      have hb1 := HB.out k hk
      have hb2 := HB.out (k + 1) hlt
      have hpw : 9 ^ k ≤ 729 ∧ 9 ^ (k + 1) ≤ 729 := by
        have : k = 0 ∨ k = 1 ∨ k = 2 := by omega
        rcases this with rfl | rfl | rfl <;> decide
      have hst := HS.out k hlt
      have hle := HLE.out k hlt
      have hs8 := hf k hlt
      have hkp : k < p.length := by rw [HPL.out]; exact hlt
      generalize ixK ts p k = n at *
      generalize hpk : p.getD k 0 = pk at *
      generalize ts[k] = s at *
      have hm : n * (s.size + 1) ≤ 729 := by omega
      have hm0 : (n : Int) * ((s.size : Int) + 1) ≤ 729 := by exact_mod_cast hm
      have hm1 : (0 : Int) ≤ (n : Int) * ((s.size : Int) + 1) := Int.mul_nonneg (by omega) (by omega)
      have HST := hide hst
      clear hpk hst hm hb1 hb2 hpw
      go_wp2
      go_roundw
      case measure => simp [intOf]; omega
      exact ⟨k + 1, by omega, by go_num, by rw [HST.out]; push_cast; rfl, hO, hb⟩
    · have hkn : k = ts.length := by omega
      subst hkn
      rw [HEND.out]
      go_wp2
      go_ret
      exact gives_of (rfl) (by (repeat (first | exact Below.refl _ _ | assumption | refine below_drewN ?_ _ | refine below_drew ?_ | refine below_gr ?_ ?_ _ | refine below_alloc ?_ ?_ _ | refine Below.setCell ?_ ?_ _ | refine below_step ?_ (by assumption) ?_ | omega | (simp only [zz] at *; omega))))
end Go.Proofs.Ytafncmgijbkomaa
namespace Go.Proofs.Ytafncmgijbkomaa
open Go.RowKit
theorem Strs.lens {w : World} {b o : Nat} {ts : List ByteArray} (h : Strs w (some ⟨b, o, none⟩) ts) {k : Nat} (hk : k < ts.length) : w.cell? ⟨b, o + k, none⟩ = some (.string ts[k]) := h.at hk
set_option maxRecDepth 100000 in
set_option maxHeartbeats 1000000 in
theorem last_any (R : Nat) (W : Int) (A : Option Addr) (ts : List ByteArray) (cap : Nat) (w : World) (hR : ReelAt w R W A ts cap) (hA : Strs w A ts) (h3 : ts.length ≤ 3) (hf : Fine ts) :
    Calls Try.prog 57 #[.pointer (some ⟨R, 0, none⟩)] w (Gives w (plV (Tm.lastPl (lts ts)))) := by
  have HQL : Hid ((Tm.lastPl (lts ts)).length = ts.length) := hide (by simp [Tm.lastPl, lts])
  have HZL : Hid ((Tm.zeroP (lts ts)).length = ts.length) := hide (by simp [Tm.zeroP, lts])
  have HQA : Hid (∀ k, (h : k < ts.length) → (h2 : k < (Tm.lastPl (lts ts)).length) → (Tm.lastPl (lts ts))[k] = ts[k].size) := hide (fun k h h2 => by simp [Tm.lastPl, lts, lt_len])
  have HZ0 : Hid (plC (Tm.zeroP (lts ts)) = #[.int .i64 0, .int .i64 0, .int .i64 0]) := by
    refine hide ?_
    have : ∀ k, (Tm.zeroP (lts ts)).getD k 0 = 0 := fun k => by
      unfold Tm.zeroP
      rw [List.getD_eq_getElem?_getD, List.getElem?_map]
      cases (lts ts)[k]? <;> rfl
    unfold plC
    rw [this, this, this]
    rfl
  obtain ⟨r0, r1, rl⟩ := hR
  generalize hq : Tm.lastPl (lts ts) = q at *
  generalize hz : Tm.zeroP (lts ts) = z at *
  clear hq hz
  have h3' : (ts.length : Int) ≤ 3 := by omega
  unfold plV
  go_enter Try.func57, Try.ntmps57
  go_wp2
  go_loopw [4, 5, 12] (fun _ _ i wr => ∃ k : Nat, k ≤ ts.length ∧ i = .int .i64 k ∧ wr.heap[w.heap.size + 1]? = some (.cells (plC (mixP q z k)) 86 (0, 0)) ∧ wr.heap[w.heap.size]? = some (.cells #[.int .i64 0, .int .i64 0, .int .i64 0] 86 (0, 0)) ∧ Below w.heap.size w wr) (fun _ _ i _ => ts.length - (intOf i).toNat)
  case atStart =>
    refine ⟨0, Nat.zero_le _, rfl, ?_, ?_, by (repeat (first | exact Below.refl _ _ | assumption | (refine below_gr ?_ (by (first | omega | (simp only [zz] at *; omega))) _) | (refine below_alloc ?_ (by (first | omega | (simp only [zz] at *; omega))) _) | (refine Below.setCell ?_ (by (first | omega | (simp only [zz] at *; omega))) _) | refine below_drewN ?_ _ | refine below_drew ?_ | (refine below_step ?_ (by assumption) (by (first | omega | (simp only [zz] at *; omega))))))⟩
    · rw [mixP_zero, HZ0.out]; exact heap_b _ _ _
    · exact heap_a _ _ _
  case round =>
    obtain ⟨k, hk, rfl, hO, hO2, hb⟩ := hrel
    have hsz := hb.size
    have c0 : wr.cell? ⟨R, 0, none⟩ = some (.int .i64 W) := (hb.cell (p := ⟨R, _, none⟩) rl).trans r0
    have c1 : wr.cell? ⟨R, 1, none⟩ = some (.slice A ts.length cap) := (hb.cell (p := ⟨R, _, none⟩) rl).trans r1
    by_cases hlt : k < ts.length
    · obtain ⟨tb, to, rfl, tl⟩ := hA.form (by omega)
      have hs := (hA.ext hb).at hlt
      have hzl := HZL.out
      have hql := HQL.out
      have hc := obj_at hO k _ (plC_at _ k (by omega))
      have hfz := obj_fz hO k
      obtain ⟨hs1, hs2⟩ := hf k hlt
      have HS := hide (mixP_step q z k (by rw [HQL.out, HZL.out]) (by rw [HZL.out]; exact hlt))
      have HM := hide (fun v => plC_set (mixP q z k) k v (by simp [mixP]; omega) (by simp [mixP]; omega))
      have HQK := hide (HQA.out k hlt (by rw [HQL.out]; exact hlt))
      clear hzl hql
      generalize (mixP q z k).getD k 0 = x0 at *
      generalize ts[k] = s at *
      go_wp2
      go_roundw
      case measure => simp [intOf]; omega
      refine ⟨k + 1, by omega, by go_num, ?_, ?_, Below.setCell (p := ⟨w.heap.size + 1, k, none⟩) hb (by simp) _⟩
      · rw [HS.out, ← HM.out, HQK.out]; exact set_obj hO k _
      · rw [Below.heap_setCell _ _ _ _ (by simp)]; exact hO2
    · have hkn : k = ts.length := by omega
      have hmq : mixP q z k = q := by rw [hkn, ← HZL.out]; exact mixP_all q z (by rw [HQL.out, HZL.out])
      rw [hmq] at hO
      clear hmq
      obtain ⟨y0, y1, y2, hY⟩ : ∃ y0 y1 y2 : Nat, plC q = #[.int .i64 (y0 : Nat), .int .i64 (y1 : Nat), .int .i64 (y2 : Nat)] := ⟨_, _, _, rfl⟩
      rw [hY] at hO
      have HY := hide hY
      clear hY
      have e0 := obj_at hO 0 _ rfl
      have e1 := obj_at hO 1 _ rfl
      have e2 := obj_at hO 2 _ rfl
      have f0 := obj_at hO2 0 _ rfl
      have f1 := obj_at hO2 1 _ rfl
      have f2 := obj_at hO2 2 _ rfl
      have g0 := obj_fz hO2 0
      have g1 := obj_fz hO2 1
      have g2 := obj_fz hO2 2
      go_wp2
      have s0 := set_obj hO2 0 (.int .i64 (y0 : Nat))
      have s1 := set_obj s0 1 (.int .i64 (y1 : Nat))
      have s2 := set_obj s1 2 (.int .i64 (y2 : Nat))
      have k0 := obj_at s0 0 (.int .i64 (y0 : Nat)) rfl
      have k1 := obj_at s1 1 (.int .i64 (y1 : Nat)) rfl
      have k2 := obj_at s2 2 (.int .i64 (y2 : Nat)) rfl
      refine bodyPost_ret (v := .agg #[.int .i64 (y0 : Nat), .int .i64 (y1 : Nat), .int .i64 (y2 : Nat)]) (by simp [results, Try.results57, go_sem, k0, k1, k2]) rfl (gives_of (by rw [HY.out]) (by (repeat (first | exact Below.refl _ _ | assumption | refine below_drewN ?_ _ | refine below_drew ?_ | refine below_gr ?_ ?_ _ | refine below_alloc ?_ ?_ _ | refine Below.setCell ?_ ?_ _ | refine below_step ?_ (by assumption) ?_ | omega | (simp only [zz] at *; omega)))))
end Go.Proofs.Ytafncmgijbkomaa
namespace Go.Proofs.Ytafncmgijbkomaa
open Go.RowKit
theorem mixP_back (z q : List Nat) (k : Nat) (h : z.length = q.length) (hk : k < q.length) : mixP z q k = (mixP z q (k + 1)).set k q[k] := by
  unfold mixP
  apply List.ext_getElem
  · simp; omega
  · intro i h1 h2
    rw [List.getElem_set]
    by_cases e : k = i
    · subst e; rw [if_pos rfl, List.getElem_append_right (by simp; omega)]; simp [h, Nat.min_eq_left (Nat.le_of_lt hk)]
    · rw [if_neg e]
      by_cases e2 : i < k
      · rw [List.getElem_append_left (by simp; omega), List.getElem_append_left (by simp; omega), List.getElem_take, List.getElem_take]
      · rw [List.getElem_append_right (by simp; omega), List.getElem_append_right (by simp; omega)]
        simp only [List.getElem_drop, List.length_take]
        congr 1
        omega
theorem prodP_drop (ts : List ByteArray) (k : Nat) (h : k < ts.length) : Tm.prodP (lts (ts.drop k)) = (ts[k].size + 1) * Tm.prodP (lts (ts.drop (k + 1))) := by
  rw [List.drop_eq_getElem_cons h]
  show Tm.prodP (lt ts[k] :: lts (ts.drop (k + 1))) = _
  show ((lt ts[k]).length + 1) * Tm.prodP (lts (ts.drop (k + 1))) = _
  rw [lt_len]
theorem prodP_small (ts : List ByteArray) (h : Small ts) (h3 : ts.length ≤ 3) : Tm.prodP (lts ts) ≤ 729 := by
  have key : ∀ k, k ≤ ts.length → Tm.prodP (lts (ts.drop (ts.length - k))) ≤ 9 ^ k := fun k => by
    induction k with
    | zero => intro _; rw [Nat.sub_zero, List.drop_length]; exact Nat.le_refl _
    | succ k ih =>
      intro hk
      have h1 := ih (by omega)
      rw [prodP_drop ts (ts.length - (k + 1)) (by omega)]
      have h2 := h (ts.length - (k + 1)) (by omega)
      rw [show ts.length - (k + 1) + 1 = ts.length - k by omega, Nat.pow_succ, Nat.mul_comm (9 ^ k)]
      exact Nat.mul_le_mul (by omega) h1
  have := key ts.length (Nat.le_refl _)
  rw [Nat.sub_self, List.drop_zero] at this
  exact Nat.le_trans this (Nat.le_trans (Nat.pow_le_pow_right (by decide) h3) (by decide))
theorem small_fine {ts : List ByteArray} (h : Small ts) (h2 : ∀ k, (h : k < ts.length) → ∀ j, (hj : j < ts[k].size) → 97 ≤ (ts[k][j].toNat : Int)) : Fine ts := fun k hk => by
  refine ⟨by have := h k hk; omega, fun j hj => ⟨h2 k hk j hj, ?_⟩⟩
  have := ts[k][j].toNat_lt
  omega
set_option maxRecDepth 100000 in
set_option maxHeartbeats 1000000 in
theorem many_any (R : Nat) (W : Int) (A : Option Addr) (ts : List ByteArray) (cap : Nat) (w : World) (hR : ReelAt w R W A ts cap) (hA : Strs w A ts) (h3 : ts.length ≤ 3) (hf : Fine ts) (hs : Small ts) :
    Calls Try.prog 68 #[.pointer (some ⟨R, 0, none⟩)] w (Gives w (.int .i64 (Tm.prodP (lts ts) : Nat))) := by
  have hl := Tm.idx_last (lts ts)
  have hle := prodP_small ts hs h3
  have HF := hide (fun (w' : World) (hR : ReelAt w' R W A ts cap) (hA : Strs w' A ts) => last_any R W A ts cap w' hR hA h3 hf)
  have HI := hide (fun (w' : World) (hR : ReelAt w' R W A ts cap) (hA : Strs w' A ts) => index_any R W A ts cap (Tm.lastPl (lts ts)) w' hR hA h3 (Tm.last_is _) hs)
  generalize Tm.lastPl (lts ts) = q at *
  generalize Tm.idxP (lts ts) q 0 = n at *
  have HL := hide hl
  have hn : n ≤ 729 := by omega
  clear hl hle hf hs
  go_enter Try.func68, Try.ntmps68
  go_wp2_with (first
    | (go_at_call 57; refine (HF.out _ (hR.ext (by (repeat (first | exact Below.refl _ _ | assumption | refine below_drewN ?_ _ | refine below_drew ?_ | refine below_gr ?_ ?_ _ | refine below_alloc ?_ ?_ _ | refine Below.setCell ?_ ?_ _ | refine below_step ?_ (by assumption) ?_ | omega | (simp only [zz] at *; omega))))) (hA.ext (by (repeat (first | exact Below.refl _ _ | assumption | refine below_drewN ?_ _ | refine below_drew ?_ | refine below_gr ?_ ?_ _ | refine below_alloc ?_ ?_ _ | refine Below.setCell ?_ ?_ _ | refine below_step ?_ (by assumption) ?_ | omega | (simp only [zz] at *; omega)))))).mono ?_; rintro e w1 ⟨rfl, hb1⟩; replace hb1 := ex_below hb1; have hz1 := hb1.size; (try simp only [zz] at hz1); have hlt1 : ∀ b, b < w.heap.size → b < w1.heap.size := fun b hb => (by (first | omega | (simp only [zz] at *; omega))); have hc1 : ∀ b o, b < w.heap.size → w1.cell? ⟨b, o, none⟩ = w.cell? ⟨b, o, none⟩ := old_cell (by (repeat (first | exact Below.refl _ _ | assumption | refine below_drewN ?_ _ | refine below_drew ?_ | refine below_gr ?_ ?_ _ | refine below_alloc ?_ ?_ _ | refine Below.setCell ?_ ?_ _ | refine below_step ?_ (by assumption) ?_ | omega | (simp only [zz] at *; omega)))))
    | (go_at_call 70; refine (HI.out _ (hR.ext (by (repeat (first | exact Below.refl _ _ | assumption | refine below_drewN ?_ _ | refine below_drew ?_ | refine below_gr ?_ ?_ _ | refine below_alloc ?_ ?_ _ | refine Below.setCell ?_ ?_ _ | refine below_step ?_ (by assumption) ?_ | omega | (simp only [zz] at *; omega))))) (hA.ext (by (repeat (first | exact Below.refl _ _ | assumption | refine below_drewN ?_ _ | refine below_drew ?_ | refine below_gr ?_ ?_ _ | refine below_alloc ?_ ?_ _ | refine Below.setCell ?_ ?_ _ | refine below_step ?_ (by assumption) ?_ | omega | (simp only [zz] at *; omega)))))).mono ?_; rintro e w1 ⟨rfl, hb1⟩; replace hb1 := ex_below hb1; have hz1 := hb1.size; (try simp only [zz] at hz1); have hlt1 : ∀ b, b < w.heap.size → b < w1.heap.size := fun b hb => (by (first | omega | (simp only [zz] at *; omega))); have hc1 : ∀ b o, b < w.heap.size → w1.cell? ⟨b, o, none⟩ = w.cell? ⟨b, o, none⟩ := old_cell (by (repeat (first | exact Below.refl _ _ | assumption | refine below_drewN ?_ _ | refine below_drew ?_ | refine below_gr ?_ ?_ _ | refine below_alloc ?_ ?_ _ | refine Below.setCell ?_ ?_ _ | refine below_step ?_ (by assumption) ?_ | omega | (simp only [zz] at *; omega))))))
  go_ret
  rw [← HL.out]
  exact gives_of (rfl) (by (repeat (first | exact Below.refl _ _ | assumption | refine below_drewN ?_ _ | refine below_drew ?_ | refine below_gr ?_ ?_ _ | refine below_alloc ?_ ?_ _ | refine Below.setCell ?_ ?_ _ | refine below_step ?_ (by assumption) ?_ | omega | (simp only [zz] at *; omega))))
set_option maxRecDepth 100000 in
set_option maxHeartbeats 1000000 in
theorem place_any (R : Nat) (W : Int) (A : Option Addr) (ts : List ByteArray) (cap : Nat) (N : Nat) (w : World) (hR : ReelAt w R W A ts cap) (hA : Strs w A ts) (h3 : ts.length ≤ 3) (hs : Small ts) (hN : N < Tm.prodP (lts ts)) :
    Calls Try.prog 95 #[.pointer (some ⟨R, 0, none⟩), .int .i64 (N : Nat)] w (Gives w (plV (Tm.placeP (lts ts) N))) := by
  have hle := prodP_small ts hs h3
  have HQL : Hid ((Tm.placeP (lts ts) N).length = ts.length) := hide (by rw [(Tm.place_is hN).1.len]; simp [lts])
  have HZL : Hid ((Tm.zeroP (lts ts)).length = ts.length) := hide (by simp [Tm.zeroP, lts])
  have HQA : Hid (∀ k, (h : k < ts.length) → (h2 : k < (Tm.placeP (lts ts) N).length) → (Tm.placeP (lts ts) N)[k] = (N / Tm.prodP (lts (ts.drop (k + 1)))) % (ts[k].size + 1)) := hide (fun k h h2 => by
    have h0 := Tm.placeP_at (lts ts) N hN k (by simpa [lts] using h)
    rw [List.getElem?_eq_getElem h2] at h0
    have h1 := Option.some.inj h0
    rw [h1]
    simp [lts, lt_len])
  have HD : Hid (∀ k, (h : k < ts.length) → N / Tm.prodP (lts (ts.drop k)) = N / Tm.prodP (lts (ts.drop (k + 1))) / (ts[k].size + 1)) := hide (fun k h => by
    rw [prodP_drop ts k h, Nat.div_div_eq_div_mul, Nat.mul_comm])
  have HN0 : Hid (N / Tm.prodP (lts (ts.drop ts.length)) = N) := hide (by rw [List.drop_length]; exact Nat.div_one N)
  have hN729 : N ≤ 729 := by omega
  have HLE : Hid (∀ k, N / Tm.prodP (lts (ts.drop k)) ≤ N) := hide (fun k => Nat.div_le_self _ _)
  have HZ0 : Hid (plC (Tm.zeroP (lts ts)) = #[.int .i64 0, .int .i64 0, .int .i64 0]) := by
    refine hide ?_
    have : ∀ k, (Tm.zeroP (lts ts)).getD k 0 = 0 := fun k => by
      unfold Tm.zeroP
      rw [List.getD_eq_getElem?_getD, List.getElem?_map]
      cases (lts ts)[k]? <;> rfl
    unfold plC
    rw [this, this, this]
    rfl
  obtain ⟨r0, r1, rl⟩ := hR
  clear hle hN
  generalize hq : Tm.placeP (lts ts) N = q at *
  generalize hz : Tm.zeroP (lts ts) = z at *
  generalize hd : (fun k => N / Tm.prodP (lts (ts.drop k))) = D
  have HDE : Hid (∀ k, N / Tm.prodP (lts (ts.drop k)) = D k) := hide (fun k => by rw [← hd])
  clear hq hz hd
  have HD2 : Hid (∀ k, (h : k < ts.length) → D k = D (k + 1) / (ts[k].size + 1)) := hide (fun k h => by rw [← HDE.out, ← HDE.out]; exact HD.out k h)
  have HQ2 : Hid (∀ k, (h : k < ts.length) → (h2 : k < q.length) → q[k] = D (k + 1) % (ts[k].size + 1)) := hide (fun k h h2 => by rw [← HDE.out]; exact HQA.out k h h2)
  have HN2 : Hid (D ts.length = N) := hide (by rw [← HDE.out]; exact HN0.out)
  have HL2 : Hid (∀ k, D k ≤ 729) := hide (fun k => by rw [← HDE.out]; exact Nat.le_trans (HLE.out k) hN729)
  clear HD HQA HN0 HLE HDE
  have h3' : (ts.length : Int) ≤ 3 := by omega
  unfold plV
  go_enter Try.func95, Try.ntmps95
  go_wp2
  go_loopw [1, 6] (fun n i wr => ∃ k : Nat, k ≤ ts.length ∧ i = .int .i64 ((k : Int) - 1) ∧ n = .int .i64 (D k : Nat) ∧ wr.heap[w.heap.size + 1]? = some (.cells (plC (mixP z q k)) 86 (0, 0)) ∧ wr.heap[w.heap.size]? = some (.cells #[.int .i64 0, .int .i64 0, .int .i64 0] 86 (0, 0)) ∧ Below w.heap.size w wr) (fun _ i _ => (intOf i + 1).toNat)
  case atStart =>
    refine ⟨ts.length, Nat.le_refl _, by go_num, by rw [HN2.out], ?_, ?_, by (repeat (first | exact Below.refl _ _ | assumption | (refine below_gr ?_ (by (first | omega | (simp only [zz] at *; omega))) _) | (refine below_alloc ?_ (by (first | omega | (simp only [zz] at *; omega))) _) | (refine Below.setCell ?_ (by (first | omega | (simp only [zz] at *; omega))) _) | refine below_drewN ?_ _ | refine below_drew ?_ | (refine below_step ?_ (by assumption) (by (first | omega | (simp only [zz] at *; omega))))))⟩
    · have hmz : mixP z q ts.length = z := by rw [← HQL.out]; exact mixP_all z q (by rw [HQL.out, HZL.out])
      rw [hmz, HZ0.out]; exact heap_b _ _ _
    · exact heap_a _ _ _
  case round =>
    obtain ⟨k, hk, rfl, rfl, hO, hO2, hb⟩ := hrel
    have hsz := hb.size
    have c0 : wr.cell? ⟨R, 0, none⟩ = some (.int .i64 W) := (hb.cell (p := ⟨R, _, none⟩) rl).trans r0
    have c1 : wr.cell? ⟨R, 1, none⟩ = some (.slice A ts.length cap) := (hb.cell (p := ⟨R, _, none⟩) rl).trans r1
    cases k with
    | succ k =>
      have hlt : k < ts.length := hk
      obtain ⟨tb, to, rfl, tl⟩ := hA.form (by omega)
      have hs0 := (hA.ext hb).at hlt
      have hc := obj_at hO k _ (plC_at _ k (by omega))
      have hfz := obj_fz hO k
      have hs1 := hs k hlt
      have HS := hide (mixP_back z q k (by rw [HQL.out, HZL.out]) (by rw [HQL.out]; exact hlt))
      have HM := hide (fun v => plC_set (mixP z q (k + 1)) k v (by simp [mixP, HQL.out, HZL.out]; omega) (by simp [mixP, HQL.out, HZL.out]; omega))
      have HQK := hide (HQ2.out k hlt (by rw [HQL.out]; exact hlt))
      have HDK := hide (HD2.out k hlt)
      have hdk := HL2.out (k + 1)
      generalize (mixP z q (k + 1)).getD k 0 = x0 at *
      generalize ts[k] = s at *
      generalize D (k + 1) = d at *
      go_wp2
      go_roundw
      case measure => simp [intOf]; try omega
      refine ⟨k, by omega, by go_num, ?_, ?_, ?_, Below.setCell (p := ⟨w.heap.size + 1, k, none⟩) hb (by simp) _⟩
      · rw [HDK.out]
        have e1 : ((d : Int) / ((s.size : Int) + 1)) = ((d / (s.size + 1) : Nat) : Int) := by push_cast; rfl
        have e2 : d / (s.size + 1) ≤ d := Nat.div_le_self _ _
        rw [e1]
        generalize d / (s.size + 1) = dd at *
        rw [IntWalk.wrap64_in _ (by omega)]
      · rw [HS.out, ← HM.out, HQK.out]; exact set_obj hO k _
      · rw [Below.heap_setCell _ _ _ _ (by simp)]; exact hO2
    | zero =>
      have hmq : mixP z q 0 = q := mixP_zero z q
      rw [hmq] at hO
      clear hmq
      obtain ⟨y0, y1, y2, hY⟩ : ∃ y0 y1 y2 : Nat, plC q = #[.int .i64 (y0 : Nat), .int .i64 (y1 : Nat), .int .i64 (y2 : Nat)] := ⟨_, _, _, rfl⟩
      rw [hY] at hO
      have HY := hide hY
      clear hY
      have e0 := obj_at hO 0 _ rfl
      have e1 := obj_at hO 1 _ rfl
      have e2 := obj_at hO 2 _ rfl
      have f0 := obj_at hO2 0 _ rfl
      have f1 := obj_at hO2 1 _ rfl
      have f2 := obj_at hO2 2 _ rfl
      have g0 := obj_fz hO2 0
      have g1 := obj_fz hO2 1
      have g2 := obj_fz hO2 2
      go_wp2
      have s0 := set_obj hO2 0 (.int .i64 (y0 : Nat))
      have s1 := set_obj s0 1 (.int .i64 (y1 : Nat))
      have s2 := set_obj s1 2 (.int .i64 (y2 : Nat))
      have k0 := obj_at s0 0 (.int .i64 (y0 : Nat)) rfl
      have k1 := obj_at s1 1 (.int .i64 (y1 : Nat)) rfl
      have k2 := obj_at s2 2 (.int .i64 (y2 : Nat)) rfl
      refine bodyPost_ret (v := .agg #[.int .i64 (y0 : Nat), .int .i64 (y1 : Nat), .int .i64 (y2 : Nat)]) (by simp [results, Try.results95, go_sem, k0, k1, k2]) rfl (gives_of (by rw [HY.out]) (by (repeat (first | exact Below.refl _ _ | assumption | refine below_drewN ?_ _ | refine below_drew ?_ | refine below_gr ?_ ?_ _ | refine below_alloc ?_ ?_ _ | refine Below.setCell ?_ ?_ _ | refine below_step ?_ (by assumption) ?_ | omega | (simp only [zz] at *; omega)))))
end Go.Proofs.Ytafncmgijbkomaa
namespace Go.Proofs.Ytafncmgijbkomaa
open Go.RowKit Go.Maps Go.Shelf
attribute [local go_sem] Oper.semAt_some
/-- what lies before, and a block, stays -/
structure Kp (n B : Nat) (X Y : World) : Prop where
  old : ∀ b, b < n → Y.heap[b]? = X.heap[b]?
  own : Y.heap[B]? = X.heap[B]?
theorem Kp.refl (n B : Nat) (X : World) : Kp n B X X := ⟨fun _ _ => rfl, rfl⟩
theorem Kp.trans {n B : Nat} {X Y Z : World} (h : Kp n B X Y) (k : Kp n B Y Z) : Kp n B X Z := ⟨fun b hb => (k.old b hb).trans (h.old b hb), k.own.trans h.own⟩
theorem Kp.below {n B m : Nat} {X Y : World} (h : Below m X Y) (hn : n ≤ m) (hB : B < m) : Kp n B X Y := ⟨fun b hb => h.block b (by omega), h.block B hB⟩
theorem kp_put {w : World} {n B : Nat} (h1 : n ≤ w.heap.size) (h2 : B < w.heap.size) (W : World) (l : Nat) (o o' : Obj) (hl : w.heap.size ≤ l) (_ : W.heap[l]? = some o) (_ : o.isCells = false) (_ : o.isWalk = false) : Kp n B W (W.putObj l o') :=
  ⟨fun b hb => World.putObj_heap_other (by omega), World.putObj_heap_other (by omega)⟩
theorem Kp.setCell {n B : Nat} (X : World) {a : Addr} (h1 : n ≤ a.block) (h2 : B ≠ a.block) (v : Value) : Kp n B X (X.setCell a v) :=
  ⟨fun b hb => Below.heap_setCell _ _ _ _ (by omega), Below.heap_setCell _ _ _ _ h2⟩
theorem old_lt {X Y : World} {b : Nat} (h : b < X.heap.size) (k : Y.heap[b]? = X.heap[b]?) : b < Y.heap.size := by
  rw [Array.getElem?_eq_getElem h] at k
  exact (Array.getElem?_eq_some_iff.1 k).1
theorem ReelAt.old {X Y : World} {R : Nat} {W : Int} {A : Option Addr} {ts : List ByteArray} {c : Nat} (h : ReelAt X R W A ts c) (k : ∀ b, b < X.heap.size → Y.heap[b]? = X.heap[b]?) : ReelAt Y R W A ts c :=
  ⟨(World.cell?_of_block (a := ⟨R, 0, none⟩) (k R h.2.2)).trans h.1, (World.cell?_of_block (a := ⟨R, 1, none⟩) (k R h.2.2)).trans h.2.1, old_lt h.2.2 (k R h.2.2)⟩
theorem Strs.old {X Y : World} {A : Option Addr} {ts : List ByteArray} (h : Strs X A ts) (k : ∀ b, b < X.heap.size → Y.heap[b]? = X.heap[b]?) : Strs Y A ts := fun i p hk => by
  obtain ⟨b, off, h0, h1, h2, h3⟩ := h i p hk
  have := old_lt h1 (k b h1)
  exact ⟨b, off, h0, this, by omega, (World.cell?_of_block (a := ⟨b, off + i, none⟩) (k b h1)).trans h3⟩
theorem below_grown {X Y : World} (h : Below X.heap.size X Y) : X.grownBy Y none := ⟨h.1, h.2, h.3, h.size, fun k hk _ => h.block k hk⟩
/-- from the last one on -/
def downL (M : Nat) : List Nat := (List.range M).reverse
theorem downL_len (M : Nat) : (downL M).length = M := by simp [downL]
theorem downL_take (M k : Nat) (h : k < M) : (downL M).take (M - k) = (downL M).take (M - (k + 1)) ++ [k] := by
  have h1 : M - k = (M - (k + 1)) + 1 := by omega
  rw [h1, List.take_succ_eq_append_getElem (by rw [downL_len]; omega)]
  congr 2
  simp [downL]
  omega
theorem downL_take_mem (M k : Nat) (h : k ≤ M) : ∀ x, x ∈ (downL M).take (M - k) ↔ k ≤ x ∧ x < M := by
  obtain ⟨d, rfl⟩ : ∃ d, M = k + d := ⟨M - k, by omega⟩
  rw [Nat.add_sub_cancel_left]
  intro x
  unfold downL
  rw [List.take_reverse, List.mem_reverse, List.length_range, Nat.add_sub_cancel, List.mem_drop_iff_getElem]
  constructor
  · rintro ⟨i, hi, e⟩; simp at e hi; omega
  · rintro ⟨h1, h2⟩; exact ⟨x - k, by simp; omega, by simp; omega⟩
theorem places_in (w : World) (p : Option Addr) : Calls Try.prog 69 #[.pointer p] w fun e w' => e = .returned (.func (.func 94) #[] #[.pointer (some ⟨w.heap.size, 0, none⟩)]) ∧ w' = w.alloc (.cells #[.pointer p] 83) := by
  go_enter Try.func69, Try.ntmps69
  go_wp2
  go_ret
  exact ⟨rfl, rfl⟩
/-- an index, and its place -/
def encN (ts : List ByteArray) (x : Nat) : Array Value := #[.int .i64 (x : Nat), plV (Tm.placeP (lts ts) x)]
set_option maxRecDepth 100000 in
set_option maxHeartbeats 1000000 in
theorem places1_in (n : Nat) (hn : 1 ≤ n) (l Bm R : Nat) (W : Int) (A : Option Addr) (ts : List ByteArray) (cap : Nat) (base : World) (hR : ReelAt base R W A ts cap) (hA : Strs base A ts) (h3 : ts.length ≤ 3) (hf : Fine ts) (hs : Small ts)
    (M : Nat) (hM : Tm.prodP (lts ts) = M) (B0 : Nat) (J Jx : List Nat → World → Prop) (hJ : AbidesFrom B0 J)
    (hY : ∀ pre x Wr, J pre Wr → pre.length < M → YieldAt Fence.wide (n - 1) Try.prog l (encN ts x) Wr fun e W' =>
      (e = .returned (.bool true) ∧ J (pre ++ [x]) W' ∧ Kp base.heap.size Bm Wr W') ∨ (e = .returned (.bool false) ∧ Jx (pre ++ [x]) W'))
    (Wl : World) (hK : ∀ b, b < base.heap.size → Wl.heap[b]? = base.heap[b]?) (hB : Wl.cell? ⟨Bm, 0, none⟩ = some (.pointer (some ⟨R, 0, none⟩))) (hBl : Bm < Wl.heap.size) (hnl : base.heap.size ≤ Wl.heap.size) (h0 : J [] Wl) :
    CallsIn Fence.wide n Try.prog 94 #[.func (.yield l) #[] #[], .pointer (some ⟨Bm, 0, none⟩)] Wl fun e W' => (∃ v, e = .returned v) ∧
      ((∃ ys, ys = downL M ∧ J ys W') ∨ (∃ pre, pre <+: downL M ∧ Jx pre W')) := by
  have HMA := hide (fun (w' : World) (hR : ReelAt w' R W A ts cap) (hA : Strs w' A ts) => many_any R W A ts cap w' hR hA h3 hf hs)
  have HPL := hide (fun (w' : World) (N : Nat) (hR : ReelAt w' R W A ts cap) (hA : Strs w' A ts) (hN : N < M) => place_any R W A ts cap N w' hR hA h3 hs (by rw [hM]; exact hN))
  have hM9 := prodP_small ts hs h3
  rw [hM] at HMA hM9
  have hMp : 0 < M := by rw [← hM]; exact Tm.prod_pos _
  clear hM hf hs
  refine callsIn_of_wp Try.func94 rfl trivial ?_ rfl
  simp only [Try.ntmps94, List.size_toArray, List.length_cons, List.length_nil, Nat.reduceAdd, Nat.reduceSub, Array.replicate_succ, Array.replicate_zero, List.push_toArray, List.append_toArray, List.nil_append, List.cons_append]
  gi_wp2_with (first
    | (refine ⟨trivial, ?_⟩; gi_at_call 68; refine (callsIn_wide.2 (HMA.out _ (hR.old hK) (hA.old hK))).mono ?_; rintro e w1 ⟨rfl, hb1⟩; replace hb1 := ex_below hb1))
  have hk1 : Kp base.heap.size Bm Wl w1 := Kp.below hb1 hnl hBl
  have hJ1 := hJ [] Wl w1 none h0 (below_grown hb1) (fun _ h => by cases h)
  have hz1 := hb1.size
  clear hb1 h0
  gi_loopw [3] (fun p wr => ∃ k : Nat, k ≤ M ∧ p = .int .i64 ((k : Int) - 1) ∧ J ((downL M).take (M - k)) wr ∧ Kp base.heap.size Bm Wl wr) (fun p _ => (intOf p + 1).toNat)
  case atStart => exact ⟨M, Nat.le_refl _, rfl, by rw [Nat.sub_self]; exact hJ1, hk1⟩
  case round =>
    obtain ⟨k, hk, rfl, hJa, hb⟩ := hrel
    have hko : ∀ b, b < base.heap.size → wr.heap[b]? = base.heap[b]? := fun b h => (hb.old b h).trans (hK b h)
    have c0 : wr.cell? ⟨Bm, 0, none⟩ = some (.pointer (some ⟨R, 0, none⟩)) := (World.cell?_of_block (a := ⟨Bm, 0, none⟩) hb.own).trans hB
    have hbl : Bm < wr.heap.size := old_lt hBl hb.own
    have hnl2 : base.heap.size ≤ wr.heap.size := by
      rcases Nat.eq_zero_or_pos base.heap.size with h | h
      · omega
      · have := old_lt (b := base.heap.size - 1) (X := base) (by omega) (hko _ (by omega)); omega
    cases k with
    | succ k =>
      have hkM : k < M := hk
      rw [show (((k + 1 : Nat) : Int) - 1) = (k : Int) by omega]
      have hpre := downL_take M k hkM
      have hlen : ((downL M).take (M - (k + 1))).length < M := by rw [List.length_take, downL_len]; omega
      have hpp : (downL M).take (M - k) <+: downL M := List.take_prefix _ _
      gi_wp2_with (refine ⟨trivial, ?_⟩; gi_at_call 95; refine (callsIn_wide.2 (HPL.out _ k (hR.old hko) (hA.old hko) hkM)).mono ?_; rintro e w2 ⟨rfl, hb2⟩; replace hb2 := ex_below hb2)
      have hJ2 := hJ _ wr w2 none hJa (below_grown hb2) (fun _ h => by cases h)
      obtain ⟨fn, tmps, assign, body, hy, hRR⟩ := hY _ k w2 hJ2 hlen
      unfold encN at hy
      gi_wp2
      rw [hy]
      gi_wp2
      refine hRR.mono ?_
      rintro e W3 (⟨rfl, hJ4, hk3⟩ | ⟨rfl, hJx3⟩)
      · gi_wp2
        go_roundw
        case measure => simp [intOf]; try omega
        refine ⟨k, by omega, by go_num, ?_, (hb.trans (Kp.below hb2 hnl2 hbl)).trans hk3⟩
        rw [hpre]; exact hJ4
      · gi_wp2
        refine bodyPost_ret (results_none rfl _ _ _) rfl ?_
        exact ⟨⟨_, rfl⟩, .inr ⟨_, hpp, by rw [hpre]; exact hJx3⟩⟩
    | zero =>
      rw [Nat.sub_zero, List.take_of_length_le (by rw [downL_len]; exact Nat.le_refl _)] at hJa
      gi_wp2
      go_end0
      exact ⟨⟨_, rfl⟩, .inl ⟨_, rfl, hJa⟩⟩
theorem places_stops (n : Nat) (hn : 1 ≤ n) (Bm R : Nat) (W : Int) (A : Option Addr) (ts : List ByteArray) (cap : Nat) (base : World) (hR : ReelAt base R W A ts cap) (hA : Strs base A ts) (h3 : ts.length ≤ 3) (hf : Fine ts) (hs : Small ts)
    (M : Nat) (hM : Tm.prodP (lts ts) = M) (w : World) (h1 : Bm < w.heap.size) (h2 : base.heap.size ≤ w.heap.size) (hK : ∀ b, b < base.heap.size → w.heap[b]? = base.heap[b]?)
    (hB : w.cell? ⟨Bm, 0, none⟩ = some (.pointer (some ⟨R, 0, none⟩))) :
    SeqStopsK Fence.wide n Try.prog 94 #[.pointer (some ⟨Bm, 0, none⟩)] (encN ts) (Kp base.heap.size Bm) (fun ys => ys = downL M) (fun pre => pre <+: downL M) M w := fun l J Jx W' hW hJ _ hY h0 =>
  places1_in n hn l Bm R W A ts cap base hR hA h3 hf hs M hM _ J Jx hJ hY W' (fun b hb => (hW.block b (by omega)).trans (hK b hb)) ((hW.cell (p := ⟨Bm, 0, none⟩) h1).trans hB) (by have := hW.size; omega) (by have := hW.size; omega) h0
end Go.Proofs.Ytafncmgijbkomaa

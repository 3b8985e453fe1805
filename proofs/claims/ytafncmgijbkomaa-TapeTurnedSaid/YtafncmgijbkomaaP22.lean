/- Proved here: two lists of numbers, compared; the fewest tapes that can be wrong, a part of the proofs about the tape laws. Conditions: those that each theorem names, no others. -/
import Derived.Test.YtafncmgijbkomaaP14
import Derived.WalkKit
import Derived.WalkSpells
import Derived.WalkLawsBesides
import Derived.Below
import Derived.Deep.QuietTactic
import Derived.BigQuiet
import Derived.Deep.Light
import Derived.Test.YtafncmgijbkomaaP02
import Derived.Test.YtafncmgijbkomaaP21
import Derived.Test.YtafncmgijbkomaaP09
import Derived.Test.YtafncmgijbkomaaP06
set_option linter.unusedSimpArgs false
set_option linter.unusedVariables false
namespace Go.Proofs.Ytafncmgijbkomaa
open Go.RowKit Go.Maps
set_option maxRecDepth 100000 in
set_option maxHeartbeats 1000000 in
theorem isNaN_any (x : Int) (w : World) : Calls Try.prog 99 #[.int .i64 x] w (Gives w (.bool false)) := by
  go_enter Try.func99, Try.ntmps99
  go_wp2
  go_ret
  exact gives_of (v_bool (by simp)) (by (repeat (first | exact Below.refl _ _ | assumption | refine below_drewN ?_ _ | refine below_drew ?_ | refine below_gr ?_ ?_ _ | refine below_alloc ?_ ?_ _ | refine Below.setCell ?_ ?_ _ | refine below_step ?_ (by assumption) ?_ | omega | (simp only [zz] at *; omega))))
def cmpN (x y : Nat) : Int := if x < y then -1 else if y < x then 1 else 0
set_option maxRecDepth 100000 in
set_option maxHeartbeats 1000000 in
theorem cmp_any (x y : Nat) (w : World) : Calls Try.prog 97 #[.int .i64 (x : Nat), .int .i64 (y : Nat)] w (Gives w (.int .i64 (cmpN x y))) := by
  have HV := hide (show cmpN x y = if x < y then (-1 : Int) else if y < x then 1 else 0 from rfl)
  rw [HV.out]
  by_cases h1 : x < y
  · rw [if_pos h1]
    have h1i : (x : Int) < (y : Nat) := by omega
    go_enter Try.func97, Try.ntmps97
    go_wp2_with (first
    | (go_at_call 99; refine (isNaN_any _ _).mono ?_; rintro e w1 ⟨rfl, hb1⟩; replace hb1 := ex_below hb1; have hz1 := hb1.size; (try simp only [zz] at hz1); have hlt1 : ∀ b, b < w.heap.size → b < w1.heap.size := fun b hb => (by (first | omega | (simp only [zz] at *; omega))); have hc1 : ∀ b o, b < w.heap.size → w1.cell? ⟨b, o, none⟩ = w.cell? ⟨b, o, none⟩ := old_cell (by (repeat (first | exact Below.refl _ _ | assumption | refine below_drewN ?_ _ | refine below_drew ?_ | refine below_gr ?_ ?_ _ | refine below_alloc ?_ ?_ _ | refine Below.setCell ?_ ?_ _ | refine below_step ?_ (by assumption) ?_ | omega | (simp only [zz] at *; omega))))))

    go_ret
    exact gives_of (rfl) (by (repeat (first | exact Below.refl _ _ | assumption | refine below_drewN ?_ _ | refine below_drew ?_ | refine below_gr ?_ ?_ _ | refine below_alloc ?_ ?_ _ | refine Below.setCell ?_ ?_ _ | refine below_step ?_ (by assumption) ?_ | omega | (simp only [zz] at *; omega))))
  · rw [if_neg h1]
    have h1i : ¬ ((x : Int) < (y : Nat)) := by omega
    by_cases h2 : y < x
    · rw [if_pos h2]
      have h2i : (y : Int) < (x : Nat) := by omega
      go_enter Try.func97, Try.ntmps97
      go_wp2_with (first
    | (go_at_call 99; refine (isNaN_any _ _).mono ?_; rintro e w1 ⟨rfl, hb1⟩; replace hb1 := ex_below hb1; have hz1 := hb1.size; (try simp only [zz] at hz1); have hlt1 : ∀ b, b < w.heap.size → b < w1.heap.size := fun b hb => (by (first | omega | (simp only [zz] at *; omega))); have hc1 : ∀ b o, b < w.heap.size → w1.cell? ⟨b, o, none⟩ = w.cell? ⟨b, o, none⟩ := old_cell (by (repeat (first | exact Below.refl _ _ | assumption | refine below_drewN ?_ _ | refine below_drew ?_ | refine below_gr ?_ ?_ _ | refine below_alloc ?_ ?_ _ | refine Below.setCell ?_ ?_ _ | refine below_step ?_ (by assumption) ?_ | omega | (simp only [zz] at *; omega))))))

      go_ret
      exact gives_of (rfl) (by (repeat (first | exact Below.refl _ _ | assumption | refine below_drewN ?_ _ | refine below_drew ?_ | refine below_gr ?_ ?_ _ | refine below_alloc ?_ ?_ _ | refine Below.setCell ?_ ?_ _ | refine below_step ?_ (by assumption) ?_ | omega | (simp only [zz] at *; omega))))
    · rw [if_neg h2]
      have h2i : ¬ ((y : Int) < (x : Nat)) := by omega
      go_enter Try.func97, Try.ntmps97
      go_wp2_with (first
    | (go_at_call 99; refine (isNaN_any _ _).mono ?_; rintro e w1 ⟨rfl, hb1⟩; replace hb1 := ex_below hb1; have hz1 := hb1.size; (try simp only [zz] at hz1); have hlt1 : ∀ b, b < w.heap.size → b < w1.heap.size := fun b hb => (by (first | omega | (simp only [zz] at *; omega))); have hc1 : ∀ b o, b < w.heap.size → w1.cell? ⟨b, o, none⟩ = w.cell? ⟨b, o, none⟩ := old_cell (by (repeat (first | exact Below.refl _ _ | assumption | refine below_drewN ?_ _ | refine below_drew ?_ | refine below_gr ?_ ?_ _ | refine below_alloc ?_ ?_ _ | refine Below.setCell ?_ ?_ _ | refine below_step ?_ (by assumption) ?_ | omega | (simp only [zz] at *; omega))))))

      go_ret
      exact gives_of (rfl) (by (repeat (first | exact Below.refl _ _ | assumption | refine below_drewN ?_ _ | refine below_drew ?_ | refine below_gr ?_ ?_ _ | refine below_alloc ?_ ?_ _ | refine Below.setCell ?_ ?_ _ | refine below_step ?_ (by assumption) ?_ | omega | (simp only [zz] at *; omega))))
/-- two lists, as slices.Compare has them -/
def cmpL : List Nat → List Nat → Int
  | [], [] => 0
  | [], _ :: _ => -1
  | _ :: _, [] => 1
  | x :: s, y :: t => if cmpN x y ≠ 0 then cmpN x y else cmpL s t
theorem cmpL_lt (p q : List Nat) : decide (cmpL p q < 0) = Tm.ltL p q := by
  induction p generalizing q with
  | nil => cases q <;> simp [cmpL, Tm.ltL]
  | cons x s ih =>
    cases q with
    | nil => simp [cmpL, Tm.ltL]
    | cons y t =>
      unfold cmpL Tm.ltL cmpN
      by_cases h1 : x < y
      · simp [h1]
      · by_cases h2 : y < x
        · have h3 : x ≠ y := by omega
          simp [h1, h2, h3]
        · have h3 : x = y := by omega
          subst h3
          simp [ih]
theorem cmpL_drop (p q : List Nat) (k : Nat) (hk : k < p.length) : cmpL (p.drop k) (q.drop k) = if h : k < q.length then (if cmpN p[k] q[k] ≠ 0 then cmpN p[k] q[k] else cmpL (p.drop (k + 1)) (q.drop (k + 1))) else 1 := by
  rw [List.drop_eq_getElem_cons hk]
  split
  · rename_i h
    rw [List.drop_eq_getElem_cons h]
    rfl
  · rename_i h
    have h0 : q.drop k = [] := List.drop_of_length_le (by omega)
    rw [h0]
    rfl
theorem cmpL_end (p q : List Nat) : cmpL (p.drop p.length) (q.drop p.length) = if p.length < q.length then -1 else 0 := by
  have h1 : p.drop p.length = [] := List.drop_of_length_le (Nat.le_refl _)
  rw [h1]
  split
  · rename_i h
    rw [List.drop_eq_getElem_cons h]
    rfl
  · rename_i h
    have h0 : q.drop p.length = [] := List.drop_of_length_le (by omega)
    rw [h0]
    rfl
set_option maxRecDepth 100000 in
set_option maxHeartbeats 1000000 in
theorem cmpS_any (P : Option Addr) (p : List Nat) (c : Nat) (Q : Option Addr) (q : List Nat) (d : Nat) (w : World) (hP : I64 w P (natI p)) (hQ : I64 w Q (natI q)) (hp : p.length ≤ 1000) (hq : q.length ≤ 1000) :
    Calls Try.prog 84 #[.slice P p.length c, .slice Q q.length d] w (Gives w (.int .i64 (cmpL p q))) := by
  have HD := hide (fun k h => cmpL_drop p q k h)
  have HE := hide (cmpL_end p q)
  go_enter Try.func84, Try.ntmps84
  go_wp2
  go_loopw [11] (fun i wr => ∃ k : Nat, k ≤ p.length ∧ i = .int .i64 (k : Nat) ∧ Hid (cmpL p q = cmpL (p.drop k) (q.drop k)) ∧ Grew w wr) (fun i _ => p.length - (intOf i).toNat)
  case atStart => exact ⟨0, Nat.zero_le _, rfl, hide (by simp), grew_refl _⟩
  case round =>
    obtain ⟨k, hk, rfl, HV, hb⟩ := hrel
    replace hb := hb.below
    have hzr := hb.size
    (try simp only [zz] at hzr)
    have hltr : ∀ b, b < w.heap.size → b < wr.heap.size := fun b hb => (by (first | omega | (simp only [zz] at *; omega)))
    have hcr : ∀ b o, b < w.heap.size → wr.cell? ⟨b, o, none⟩ = w.cell? ⟨b, o, none⟩ := old_cell (by (repeat (first | exact Below.refl _ _ | assumption | refine below_drewN ?_ _ | refine below_drew ?_ | refine below_gr ?_ ?_ _ | refine below_alloc ?_ ?_ _ | refine Below.setCell ?_ ?_ _ | refine below_step ?_ (by assumption) ?_ | omega | (simp only [zz] at *; omega))))
    by_cases hlt : k < p.length
    · obtain ⟨pb, po, rfl, pl, hc⟩ := i64_at hP k hlt
      have hki : (k : Int) < (p.length : Nat) := by omega
      have HD1 := hide (HD.out k hlt)
      have hgp : p.getD k 0 = p[k] := by rw [List.getD_eq_getElem?_getD, List.getElem?_eq_getElem hlt]; rfl
      rw [hgp] at hc
      clear hgp
      by_cases hlq : k < q.length
      · obtain ⟨qb, qo, rfl, ql, hcq⟩ := i64_at hQ k hlq
        have hkq : (k : Int) < (q.length : Nat) := by omega
        have hgq : q.getD k 0 = q[k] := by rw [List.getD_eq_getElem?_getD, List.getElem?_eq_getElem hlq]; rfl
        rw [hgq] at hcq
        clear hgq
        have HD2 : Hid (cmpL p q = if cmpN p[k] q[k] ≠ 0 then cmpN p[k] q[k] else cmpL (p.drop (k + 1)) (q.drop (k + 1))) := hide (by rw [HV.out, HD1.out, dif_pos hlq])
        generalize p[k] = x at *
        generalize q[k] = y at *
        have HC := hide (fun w => cmp_any x y w)
        by_cases h0 : cmpN x y = 0
        · have hz : (cmpN x y != 0) = false := by simp [h0]
          have HD3 : Hid (cmpL p q = cmpL (p.drop (k + 1)) (q.drop (k + 1))) := hide (by rw [HD2.out, if_neg (by simp [h0])])
          generalize cmpN x y = z at *
          clear h0
          go_wp2_with (go_at_call 97; refine (HC.out _).mono ?_; rintro e w1 ⟨rfl, hb1⟩; replace hb1 := ex_below hb1; have hz1 := hb1.size; (try simp only [zz] at hz1); have hlt1 : ∀ b, b < w.heap.size → b < w1.heap.size := fun b hb => (by (first | omega | (simp only [zz] at *; omega))); have hc1 : ∀ b o, b < w.heap.size → w1.cell? ⟨b, o, none⟩ = w.cell? ⟨b, o, none⟩ := old_cell (by (repeat (first | exact Below.refl _ _ | assumption | refine below_drewN ?_ _ | refine below_drew ?_ | refine below_gr ?_ ?_ _ | refine below_alloc ?_ ?_ _ | refine Below.setCell ?_ ?_ _ | refine below_step ?_ (by assumption) ?_ | omega | (simp only [zz] at *; omega)))))
          exact ⟨⟨k + 1, by omega, by go_num, HD3, grew_of (by (repeat (first | exact Below.refl _ _ | assumption | refine below_drewN ?_ _ | refine below_drew ?_ | refine below_gr ?_ ?_ _ | refine below_alloc ?_ ?_ _ | refine Below.setCell ?_ ?_ _ | refine below_step ?_ (by assumption) ?_ | omega | (simp only [zz] at *; omega))))⟩, by simp [intOf]; omega⟩
        · have hz : (cmpN x y != 0) = true := by simp [h0]
          have HD3 : Hid (cmpL p q = cmpN x y) := hide (by rw [HD2.out, if_pos h0])
          generalize cmpN x y = z at *
          clear h0
          go_wp2_with (go_at_call 97; refine (HC.out _).mono ?_; rintro e w1 ⟨rfl, hb1⟩; replace hb1 := ex_below hb1; have hz1 := hb1.size; (try simp only [zz] at hz1); have hlt1 : ∀ b, b < w.heap.size → b < w1.heap.size := fun b hb => (by (first | omega | (simp only [zz] at *; omega))); have hc1 : ∀ b o, b < w.heap.size → w1.cell? ⟨b, o, none⟩ = w.cell? ⟨b, o, none⟩ := old_cell (by (repeat (first | exact Below.refl _ _ | assumption | refine below_drewN ?_ _ | refine below_drew ?_ | refine below_gr ?_ ?_ _ | refine below_alloc ?_ ?_ _ | refine Below.setCell ?_ ?_ _ | refine below_step ?_ (by assumption) ?_ | omega | (simp only [zz] at *; omega)))))
          go_ret
          exact gives_of (v_int HD3.out.symm) (by (repeat (first | exact Below.refl _ _ | assumption | refine below_drewN ?_ _ | refine below_drew ?_ | refine below_gr ?_ ?_ _ | refine below_alloc ?_ ?_ _ | refine Below.setCell ?_ ?_ _ | refine below_step ?_ (by assumption) ?_ | omega | (simp only [zz] at *; omega))))
      · have hkq : ¬ ((k : Int) < (q.length : Nat)) := by omega
        have HD2 : Hid (cmpL p q = 1) := hide (by rw [HV.out, HD1.out, dif_neg hlq])
        go_wp2
        go_ret
        exact gives_of (v_int HD2.out.symm) (by (repeat (first | exact Below.refl _ _ | assumption | refine below_drewN ?_ _ | refine below_drew ?_ | refine below_gr ?_ ?_ _ | refine below_alloc ?_ ?_ _ | refine Below.setCell ?_ ?_ _ | refine below_step ?_ (by assumption) ?_ | omega | (simp only [zz] at *; omega))))
    · have hkl : k = p.length := by omega
      have HV2 : Hid (cmpL p q = if p.length < q.length then -1 else 0) := hide (by rw [HV.out, hkl, HE.out])
      by_cases hl : p.length < q.length
      · have hli : (p.length : Int) < (q.length : Nat) := by omega
        go_wp2
        go_ret
        exact gives_of (v_int (by rw [HV2.out, if_pos hl])) (by (repeat (first | exact Below.refl _ _ | assumption | refine below_drewN ?_ _ | refine below_drew ?_ | refine below_gr ?_ ?_ _ | refine below_alloc ?_ ?_ _ | refine Below.setCell ?_ ?_ _ | refine below_step ?_ (by assumption) ?_ | omega | (simp only [zz] at *; omega))))
      · have hli : ¬ ((p.length : Int) < (q.length : Nat)) := by omega
        go_wp2
        go_ret
        exact gives_of (v_int (by rw [HV2.out, if_neg hl])) (by (repeat (first | exact Below.refl _ _ | assumption | refine below_drewN ?_ _ | refine below_drew ?_ | refine below_gr ?_ ?_ _ | refine below_alloc ?_ ?_ _ | refine Below.setCell ?_ ?_ _ | refine below_step ?_ (by assumption) ?_ | omega | (simp only [zz] at *; omega))))
end Go.Proofs.Ytafncmgijbkomaa
namespace Go.Proofs.Ytafncmgijbkomaa
open Go.RowKit Go.Maps Go.Lib

theorem wrap_small {n : Nat} (h : n ≤ 3) : wrap64 (2 ^ n) = ((2 ^ n : Nat) : Int) := by
  have h3 : n = 0 ∨ n = 1 ∨ n = 2 ∨ n = 3 := by omega
  rcases h3 with rfl | rfl | rfl | rfl <;> exact IntWalk.wrap64_in _ (by decide)
def bitK (b k : Nat) : List Nat := (List.range k).filter (fun i => (b >>> i) % 2 = 1)
def osK (ts : List ByteArray) (b k : Nat) : List ByteArray := ((List.range k).filter (fun i => !decide ((b >>> i) % 2 = 1))).map (fun i => ts.getD i ⟨#[]⟩)
theorem bitK_succ (b k : Nat) : bitK b (k + 1) = if (b >>> k) % 2 = 1 then bitK b k ++ [k] else bitK b k := by
  unfold bitK
  rw [List.range_succ, List.filter_append]
  split <;> rename_i h
  · rw [List.filter_cons, if_pos (decide_eq_true h)]; rfl
  · rw [List.filter_cons, if_neg (by rw [decide_eq_false h]; exact Bool.false_ne_true), List.filter_nil, List.append_nil]
theorem osK_succ (ts : List ByteArray) (b k : Nat) (hk : k < ts.length) : osK ts b (k + 1) = if (b >>> k) % 2 = 1 then osK ts b k else osK ts b k ++ [ts[k]] := by
  unfold osK
  rw [List.range_succ, List.filter_append, List.map_append]
  have hg : ts.getD k ⟨#[]⟩ = ts[k] := by rw [List.getD_eq_getElem?_getD, List.getElem?_eq_getElem hk]; rfl
  split <;> rename_i h
  · rw [List.filter_cons, if_neg (by rw [decide_eq_true h]; exact Bool.false_ne_true), List.filter_nil, List.map_nil, List.append_nil]
  · rw [List.filter_cons, if_pos (by rw [decide_eq_false h]; rfl), List.filter_nil, List.map_cons, List.map_nil, hg]
theorem bitK_all (n b : Nat) : bitK b n = Tm.bitsL n b := rfl
theorem bitK_len (b k : Nat) : (bitK b k).length ≤ k := by
  unfold bitK
  exact Nat.le_trans (List.length_filter_le _ _) (by simp)
theorem osK_len (ts : List ByteArray) (b k : Nat) : (osK ts b k).length ≤ k := by
  unfold osK
  rw [List.length_map]
  exact Nat.le_trans (List.length_filter_le _ _) (by simp)
theorem osK_mem {ts : List ByteArray} {b k : Nat} (h : k ≤ ts.length) : ∀ s, s ∈ osK ts b k → s ∈ ts := fun s hs => by
  unfold osK at hs
  obtain ⟨i, hi, rfl⟩ := List.mem_map.1 hs
  have := List.mem_range.1 (List.mem_filter.1 hi).1
  rw [List.getD_eq_getElem?_getD, List.getElem?_eq_getElem (by omega)]
  exact List.getElem_mem _
theorem osK_lts (ts : List ByteArray) (b : Nat) : lts (osK ts b ts.length) = Tm.othersL (lts ts) (Tm.bitsL ts.length b) := by
  rw [← othB_lts]
  congr 1
  unfold osK othB
  congr 1
  apply List.filter_congr
  intro i hi
  congr 1
  rw [Bool.eq_iff_iff, List.any_eq_true, decide_eq_true_eq]
  unfold natI Tm.bitsL
  constructor
  · intro h
    exact ⟨(i : Nat), List.mem_map.2 ⟨i, List.mem_filter.2 ⟨hi, decide_eq_true h⟩, rfl⟩, decide_eq_true rfl⟩
  · rintro ⟨x, hx, hd⟩
    obtain ⟨j, hj, rfl⟩ := List.mem_map.1 hx
    have hd := of_decide_eq_true hd
    have : j = i := by omega
    subst this
    exact of_decide_eq_true (List.mem_filter.1 hj).2
theorem bit_and : ∀ b, b < 8 → ∀ k, k < 3 → (bits BinOp.and IntKind.i64 ((b : Nat) / 2 ^ k : Int) 1 == 1) = decide ((b >>> k) % 2 = 1) := by decide +kernel
theorem rd_i64 {w : World} {A : Option Addr} {n : Nat} {xs : List Int} (h : Rd w 1 A n (xs.map (Value.int .i64))) : I64 w A xs := fun k x hk => by
  have hl : n = xs.length := by have := h.1; rw [List.length_map] at this; omega
  have hk2 := (List.getElem?_eq_some_iff.1 hk).1
  obtain ⟨b, o, e, hb, hc⟩ := h.2 (by omega)
  exact ⟨b, o, e, hb, by omega, hc k _ (by rw [List.getElem?_map, hk]; rfl)⟩
theorem own_kept {w w' : World} {B g : Nat} {e : TypeId} {n c : Nat} {A : Option Addr} {xs : List Value} (h : w.ownsRow B e 1 (.slice A n c) n xs) (hg : w.grownBy w' (some g)) (hB : g < B) : w'.ownsRow B e 1 (.slice A n c) n xs := by
  refine h.kept hg ?_
  cases ho : (Value.slice A n c).ownBlock with
  | none => exact .inl rfl
  | some k => exact .inr (fun e => by have := (h.lt k ho).1; have := Option.some.inj e; omega)

set_option maxRecDepth 100000 in
set_option maxHeartbeats 8000000 in
theorem wrg_ok (Wn : Nat) (A : Option Addr) (ts : List ByteArray) (c : Nat) (w : World) (hA : Strs w A ts) (hl : ts.length ≤ 1000) (hsz : ∀ k, (h : k < ts.length) → ts[k].size ≤ 1000000) (lg : Nat) (h0 : openE (Wn : Nat) ts (lg : Nat) = 0) : Calls Try.prog 37 #[.agg #[.int .i64 (Wn : Nat), .slice A ts.length c], .int .i64 (lg : Nat)] w (GivesIntsL w (wrgR (Wn : Nat) ts (lg : Nat))) := by
  have hc := (open_val h0).1
  obtain ⟨hW1, hW2, h0', h3, hs, hf, _, hlo⟩ := chk_val hc
  obtain ⟨i0, ih, iz, is, ib⟩ := info_parts infoI
  obtain ⟨l0, lh, lz, ls, lb⟩ := info_parts infoS
  rw [Int.toNat_natCast] at hlo
  have HWR : wrgR (Wn : Nat) ts (lg : Nat) = (natI ((List.range (2 ^ ts.length)).foldl (Tm.wrongStep ts.length (canB Wn (lts ts) lg)) (false, [])).2, 0) := by
    unfold wrgR
    rw [if_neg (by simp [h0]), Int.toNat_natCast, ← Tm.wrong_eq _ h0' h3]
    rfl
  rw [HWR]
  have hsh := wrap_small h3
  have hN8 : 2 ^ ts.length ≤ 8 := Nat.pow_le_pow_right (n := 2) (by omega) h3
  obtain ⟨N, hN⟩ : ∃ N, 2 ^ ts.length = N := ⟨_, rfl⟩
  rw [hN] at hsh hN8 ⊢
  have HSH := hide hsh
  have HFS := hide (fun b => (show (List.range (b + 1)).foldl (Tm.wrongStep ts.length (canB Wn (lts ts) lg)) (false, []) = Tm.wrongStep ts.length (canB Wn (lts ts) lg) ((List.range b).foldl (Tm.wrongStep ts.length (canB Wn (lts ts) lg)) (false, [])) b by rw [List.range_succ, List.foldl_append]; rfl))
  have HPV := hide (fun b => (show canB Wn (lts ts) lg (Tm.bitsL ts.length b) = decide (((Tm.fewN Wn (lts (osK ts b ts.length)) : Nat) : Int) ≤ (lg : Nat)) by unfold canB; rw [osK_lts]))
  have HST := hide (fun o b => (show Tm.wrongStep ts.length (canB Wn (lts ts) lg) o b = if canB Wn (lts ts) lg (Tm.bitsL ts.length b) = true then (if o.1 = false ∨ (Tm.bitsL ts.length b).length < o.2.length ∨ ((Tm.bitsL ts.length b).length = o.2.length ∧ Tm.ltL (Tm.bitsL ts.length b) o.2 = true) then (true, Tm.bitsL ts.length b) else o) else o from rfl))
  have HF0 := hide (show (List.range 0).foldl (Tm.wrongStep ts.length (canB Wn (lts ts) lg)) (false, []) = (false, []) from rfl)
  have HBA := hide (fun b => bitK_all ts.length b)
  have HBL := hide (fun b k => bitK_len b k)
  have HBS := hide (fun b k => bitK_succ b k)
  have HOS := hide (fun b k hk => osK_succ ts b k hk)
  have HOL := hide (fun b k => osK_len ts b k)
  have HBD := hide (fun b R M A' c' w' (hR : Reel R M (Wn : Nat) A' (osK ts b ts.length) c' w') => (by have h := bounds_any R Wn A' (osK ts b ts.length) c' w' hR.rat hR.str (Nat.le_trans (osK_len ts b ts.length) h3) (sub_fine (osK_mem (Nat.le_refl _)) hf) (sub_small (osK_mem (Nat.le_refl _)) hs) (by omega); rwa [bdS_val (by omega) (sub_ok (osK_mem (Nat.le_refl _)) hlo) (small_total (sub_small (osK_mem (Nat.le_refl _)) hs) (Nat.le_trans (osK_len ts b ts.length) h3))] at h : Calls Try.prog 64 #[.pointer (some ⟨R, 0, none⟩)] w' (GivesInts w' (bdsL Wn (lts (osK ts b ts.length))))))
  generalize hfo : (List.range N).foldl (Tm.wrongStep ts.length (canB Wn (lts ts) lg)) (false, []) = fin at *
  have HFO := hide hfo
  generalize hgf : (fun b => (List.range b).foldl (Tm.wrongStep ts.length (canB Wn (lts ts) lg)) (false, [])) = fo at *
  have HGF := hide (fun b => congrFun hgf b)
  clear hsh hN hfo hgf HWR
  go_enter Try.func37, Try.ntmps37
  go_wp2_with (first
    | (go_at_call 74; refine (open_ok (Wn : Nat) A ts c _ (hA.ext (by (repeat (first | exact Below.refl _ _ | assumption | refine below_drewN ?_ _ | refine below_drew ?_ | refine below_gr ?_ ?_ _ | refine below_alloc ?_ ?_ _ | refine Below.setCell ?_ ?_ _ | refine below_step ?_ (by assumption) ?_ | omega | (simp only [zz] at *; omega))))) hl hsz lg h0).mono ?_; rintro e w1 ⟨R, M, rfl, hb1, hR0, hM0, hR1⟩; have hz1 := hb1.size; (try simp only [zz] at hz1); have hs1 : w.heap.size < w1.heap.size := (by (first | omega | (simp only [zz] at *; omega))); have ho1 := own_cell hb1 (b := w.heap.size) (by (first | omega | (simp only [zz] at *; omega))); have hq1 := own_frozen hb1 (b := w.heap.size) (by (first | omega | (simp only [zz] at *; omega))); have hlt1 : ∀ b, b < w.heap.size → b < w1.heap.size := fun b hb => (by (first | omega | (simp only [zz] at *; omega))); have hc1 : ∀ b o, b < w.heap.size → w1.cell? ⟨b, o, none⟩ = w.cell? ⟨b, o, none⟩ := old_cell (by (repeat (first | exact Below.refl _ _ | assumption | refine below_drewN ?_ _ | refine below_drew ?_ | refine below_gr ?_ ?_ _ | refine below_alloc ?_ ?_ _ | refine Below.setCell ?_ ?_ _ | refine below_step ?_ (by assumption) ?_ | omega | (simp only [zz] at *; omega))))))

  rw [HSH.out]
  have hb1w : Below w.heap.size w w1 := by (repeat (first | exact Below.refl _ _ | assumption | (refine below_gr ?_ (by (first | omega | (simp only [zz] at *; omega))) _) | (refine below_alloc ?_ (by (first | omega | (simp only [zz] at *; omega))) _) | (refine Below.setCell ?_ (by (first | omega | (simp only [zz] at *; omega))) _) | refine below_drewN ?_ _ | refine below_drew ?_ | (refine below_step ?_ (by assumption) (by (first | omega | (simp only [zz] at *; omega))))))
  have y0 : w1.cell? ⟨w.heap.size, 0, none⟩ = some (.int .i64 (Wn : Nat)) := by rw [ho1]; simp [go_sem, *]
  have y1 : w1.cell? ⟨w.heap.size, 1, none⟩ = some (.slice A ts.length c) := by rw [ho1]; simp [go_sem, *]
  clear ho1 hq1 hlt1 hc1
  go_loopw [8, 9, 28] (fun bs ok ix wr => ∃ (b : Nat) (o1 : Bool) (o2 : List Nat) (AB : Option Addr) (cB : Nat), b ≤ N ∧ ix = .int .i64 (b : Nat) ∧ Hid (fo b = (o1, o2)) ∧ ok = .bool o1 ∧ bs = .slice AB o2.length cB ∧ I64 wr AB (natI o2) ∧ o2.length ≤ 3 ∧ Below w1.heap.size w1 wr) (fun _ _ ix _ => N - (intOf ix).toNat)
  case atStart => exact ⟨0, false, [], none, 0, Nat.zero_le _, rfl, hide (by rw [← HGF.out]; exact HF0.out), rfl, rfl, fun k x hk => (by cases hk), by simp, Below.refl _ _⟩
  case round =>
    obtain ⟨b, o1, o2, AB, cB, hbN, rfl, HFB, rfl, rfl, hIB, ho3, hb⟩ := hrel
    obtain ⟨wo, rfl⟩ : ∃ wo : World, wo = wr := ⟨_, rfl⟩
    have hzo := hb.size
    by_cases hlt : b < N
    · have hbi : (b : Int) < (N : Nat) := by omega
      have HBS1 := hide (HBS.out b)
      have HOS1 := hide (HOS.out b)
      have hbl := HBL.out b
      have hol := HOL.out b
      have z0 := (hb.cell (p := ⟨w.heap.size, 0, none⟩) (by show w.heap.size < _; omega)).trans y0
      have z1 := (hb.cell (p := ⟨w.heap.size, 1, none⟩) (by show w.heap.size < _; omega)).trans y1
      have hwo : w.heap.size < wo.heap.size := by omega
      have HBD1 := hide (HBD.out b)
      have HPV1 := hide (HPV.out b)
      have HST1 := hide (HST.out (fo b) b)
      have HFS1 : Hid (fo (b + 1) = Tm.wrongStep ts.length (canB Wn (lts ts) lg) (fo b) b) := hide (by rw [← HGF.out, ← HGF.out]; exact HFS.out b)
      have HBA1 := hide (HBA.out b)
      have HNL := hide (bdsL_zero (W := Wn) (ts := lts (osK ts b ts.length)))
      rw [← HBA1.out] at HPV1 HST1
      have HB0 := hide (show bitK b 0 = [] from rfl)
      have HO0 := hide (show osK ts b 0 = [] from rfl)
      have HHB := hide hbl
      have HHO := hide hol
      clear hbl hol
      generalize bitK b = bk at *
      generalize osK ts b = ok at *
      go_wp2
      obtain ⟨B, hB⟩ : ∃ B, wo.heap.size = B := ⟨_, rfl⟩
      rw [hB] at hzo hwo ⊢
      have HBB := hide hB
      clear hB
      go_loopw [11, 37] (fun lv ix wr => ∃ (k : Nat) (AL : Option Addr) (cL : Nat) (AO : Option Addr) (ol cO : Nat), k ≤ ts.length ∧ ix = .int .i64 (k : Nat) ∧ lv = .slice AL (bk k).length cL ∧ (bk k).length ≤ cL ∧ Rd wr 1 AL (bk k).length ((natI (bk k)).map (Value.int .i64)) ∧ wr.heap[B]? = some (.cells #[.int .i64 (Wn : Nat), .slice AO ol cO] 24 (0, 0)) ∧ Hid (ol = (ok k).length) ∧ wr.ownsRow (B + 1) 9 1 (.slice AO ol cO) ol ((ok k).map Value.string) ∧ (∀ g o, AL = some ⟨g, o, none⟩ → g ≠ B ∧ g < wr.heap.size ∧ Far (.slice AO ol cO) g) ∧ Below B wo wr) (fun _ ix _ => ts.length - (intOf ix).toNat)
      case atStart =>
        refine ⟨0, none, 0, none, 0, 0, Nat.zero_le _, rfl, by rw [HB0.out]; rfl, by rw [HB0.out]; exact Nat.le_refl _, by rw [HB0.out]; exact ⟨rfl, fun h => absurd h (by simp)⟩, ?_, hide (by rw [HO0.out]; rfl), by rw [HO0.out]; exact World.ownsRow_nil _ _ _ _, fun g o e => (by cases e), by rw [← HBB.out]; exact below_alloc (Below.refl _ _) (Nat.le_refl _) _⟩
        rw [← HBB.out]
        exact heap_alloc_new _ _
      case round =>
        obtain ⟨k, AL, cL, AO, ol, cO, hk, rfl, rfl, hcL, hrd, hHB, HOL2, hown, hfar, hb2⟩ := hrel
        have hz2 := hb2.size
        have hBl := (Array.getElem?_eq_some_iff.1 hHB).1
        by_cases hkl : k < ts.length
        · have hb2' : Below wo.heap.size wo wr := by rw [HBB.out]; exact hb2
          have hbw1 : Below w1.heap.size w1 wr := hb.trans (hb2'.mono (by rw [HBB.out]; exact hzo))
          have hbw : Below w.heap.size w wr := hb1w.trans (hbw1.mono hb1w.size)
          obtain ⟨tb, toff, rfl, htl, htl2, ht0⟩ := (hA.ext hbw) k ts[k] (by simp [hkl])
          have HBK := hide (HBS1.out k)
          have HOK := hide (HOS1.out k hkl)
          have hkli : (k : Int) < (ts.length : Nat) := by omega
          have hk0 : (0 : Int) ≤ (k : Int) := by omega
          have c0 := obj_at hHB 0 _ rfl
          have c1 := obj_at hHB 1 _ rfl
          have f1 := obj_fz hHB 1
          have hbl3 := HHB.out k
          have hol3 := HHO.out k
          have hol4 : ol ≤ 3 := by have := HOL2.out; omega
          generalize ts[k] = s at *
          have hba := bit_and b (by omega) k (by omega)
          have hsl := fun W' : World => slice_full (P := Try.prog) 32 3 i0 und32 ih AL (bk k).length cL hcL W'
          have hgb := own_base hown
          by_cases hbit : (b >>> k) % 2 = 1
          · have hbit1 : (bits BinOp.and IntKind.i64 ((b : Nat) / 2 ^ k : Int) 1 == 1) = true := by rw [hba, decide_eq_true hbit]
            have HBK2 : Hid (bk (k + 1) = bk k ++ [k]) := hide (by rw [HBK.out, if_pos hbit])
            have HOK2 : Hid (ok (k + 1) = ok k) := hide (by rw [HOK.out, if_pos hbit])
            clear hba hbit
            go_wp2_with (at_builtin; refine wpList_full _ rfl (.tmp 52) (.tmp 54) 32 rfl 3 i0 _ 1 8 und32 ih iz is ib AL (bk k).length ((natI (bk k)).map (Value.int .i64)) rfl (hrd.ext (by (repeat (first | exact Below.refl _ _ | assumption | refine below_drewN ?_ _ | refine below_drew ?_ | refine below_gr ?_ ?_ _ | refine below_alloc ?_ ?_ _ | refine Below.setCell ?_ ?_ _ | refine below_step ?_ (by assumption) ?_ | omega | (simp only [zz] at *; omega))))) (one_ints _) (some ⟨wr.heap.size, 0, none⟩) 1 1 [_] rfl (rd_new1 _ _ _) (by simp [Value.oneCell']) (by omega) (by omega) (by unfold maxLen; omega) ?_; intro A5 c5 w5 hg5 hA5 hc5 hrd5; replace hg5 := hg5.below; have hz5 := hg5.size; subst hA5)
            have hbr5 : Below wr.heap.size wr w5 := by (repeat (first | exact Below.refl _ _ | assumption | (refine below_gr ?_ (by (first | omega | (simp only [zz] at *; omega))) _) | (refine below_alloc ?_ (by (first | omega | (simp only [zz] at *; omega))) _) | (refine Below.setCell ?_ (by (first | omega | (simp only [zz] at *; omega))) _) | refine below_drewN ?_ _ | refine below_drew ?_ | (refine below_step ?_ (by assumption) (by (first | omega | (simp only [zz] at *; omega))))))
            refine ⟨⟨k + 1, some ⟨(wr.alloc (.cells #[.int .i64 (k : Nat)] 3)).heap.size, 0, none⟩, c5, AO, ol, cO, by omega, by go_num, ?_, ?_, ?_, (hbr5.block B hBl).trans hHB, hide (by rw [HOK2.out]; exact HOL2.out), by rw [HOK2.out]; exact own_below hown hbr5, ?_, below_step hb2 hbr5 (by omega)⟩, by simp [intOf]; omega⟩
            · rw [HBK2.out, List.length_append, World.size_alloc]; rfl
            · rw [HBK2.out, List.length_append]; exact hc5
            · rw [HBK2.out, List.length_append, ← natI_snoc, List.map_append]; exact hrd5
            · intro g o e
              injection e with e
              injection e with e1 _ _
              subst e1
              obtain ⟨b', o', e', hlt', _⟩ := hrd5.2 (by omega)
              injection e' with e'
              injection e' with e2 _ _
              subst e2
              have hs5 := hbr5.size
              simp only [World.size_alloc] at hz5 hlt' ⊢
              exact ⟨by omega, by omega, fun q hq => by have := (hown.lt q hq).2; omega⟩
          · have hbit1 : (bits BinOp.and IntKind.i64 ((b : Nat) / 2 ^ k : Int) 1 == 1) = false := by rw [hba, decide_eq_false hbit]
            have HBK2 : Hid (bk (k + 1) = bk k) := hide (by rw [HBK.out, if_neg hbit])
            have HOK2 : Hid (ok (k + 1) = ok k ++ [s]) := hide (by rw [HOK.out, if_neg hbit])
            clear hba hbit hsl
            go_wp2_with (at_builtin; refine wpList_appN _ rfl (.tmp 57) (.tmp 59) 22 rfl (B + 1) 9 l0 _ 1 16 und22 lh lz ls lb rfl (by decide) (_) (ol) (_) rfl (hown.alloc _) (some ⟨wr.heap.size, 0, none⟩) (1) (1) ([_]) rfl (rd_new1 _ _ _) (by simp [Value.oneCell']) (by unfold maxLen; omega) (by omega) (by (first | omega | (simp only [zz]; omega) | (simp only [zz] at *; omega) | (simp; done) | (simp; omega))) ?_; intro A6 c6 w6 hown6 hgr6 far6; have hHB6 := (hgr6.block B (by (first | omega | (simp only [zz]; omega) | (simp only [zz] at *; omega) | (simp; done) | (simp; omega))) (fun e => by have := hgb B e.symm; omega)).trans ((Below.heap_alloc _ _ _ hBl).trans hHB); have d1 := obj_at hHB6 1 _ rfl; have g1 := obj_fz hHB6 1)
            have hz6 := hgr6.size
            simp only [World.size_alloc] at hz6
            have hbA : Below wr.heap.size wr (wr.alloc (.cells #[.string s] 9)) := below_alloc (Below.refl _ _) (Nat.le_refl _) _
            refine ⟨⟨k + 1, AL, cL, A6, ol + 1, c6, by omega, by go_num, by rw [HBK2.out], by rw [HBK2.out]; exact hcL, ?_, set_obj hHB6 1 _, hide (by rw [HOK2.out, List.length_append, HOL2.out]; rfl), ?_, ?_, below_set0 (gb_below (below_alloc hb2 (by omega) _) hgr6 (by simp; omega) (fun g hg => by have := hgb g hg; omega)) (Nat.le_refl _)⟩, by simp [intOf]; omega⟩
            · rw [HBK2.out]
              exact rd_setCell (rd_grown (hrd.ext hbA) hgr6 (fun g o e hq => (hfar g o e).2.2 g hq rfl)) _ _ (fun g o e => (hfar g o e).1)
            · rw [HOK2.out, List.map_append]
              exact own_kept hown6 (grown_setO (grown_refl _ _)) (by omega)
            · intro g o e
              obtain ⟨q1, q2, q3⟩ := hfar g o e
              exact ⟨q1, by rw [size_setCell]; omega, far6 g (by simp; omega) q3⟩
        · have hke : k = ts.length := by omega
          have hkli : ¬ ((k : Int) < (ts.length : Nat)) := by omega
          subst hke
          obtain rfl : ol = (ok ts.length).length := HOL2.out
          have hSO := own_strs hown
          have hb2' : Below wo.heap.size wo wr := by rw [HBB.out]; exact hb2
          have c0 := obj_at hHB 0 _ rfl
          have c1 := obj_at hHB 1 _ rfl
          have hbw1 : Below w1.heap.size w1 wr := hb.trans (hb2'.mono (by rw [HBB.out]; exact hzo))
          have hzr1 := hbw1.size
          have hbl3 := HHB.out ts.length
          obtain ⟨hl0, hv0⟩ := HNL.out
          have HV0 := hide hv0
          clear hv0
          have hIL : I64 wr AL (natI (bk ts.length)) := rd_i64 hrd
          rw [HFB.out] at HST1
          clear hrd hfar hown
          generalize bdsL Wn (lts (ok ts.length)) = L at *
          generalize Tm.fewN Wn (lts (ok ts.length)) = f at *
          generalize bk ts.length = lst at *
          generalize ok ts.length = os at *
          have HCMP := hide (fun P d Q e w' (hP : I64 w' P (natI lst)) (hQ : I64 w' Q (natI o2)) => cmpS_any P lst d Q o2 e w' hP hQ (by omega) (by omega))
          have HCL := hide (cmpL_lt lst o2)
          by_cases hfl : (lg : Int) < (f : Nat)
          · have HFN : Hid (fo (b + 1) = (o1, o2)) := hide (by rw [HFS1.out, HFB.out, HST1.out, if_neg (by rw [HPV1.out, decide_eq_true_eq]; omega)])
            go_wp2_with (first
    | (go_at_call 55; refine (newReel_any (Wn : Nat) AO os cO _ (hSO.ext (by (repeat (first | exact Below.refl _ _ | assumption | refine below_drewN ?_ _ | refine below_drew ?_ | refine below_gr ?_ ?_ _ | refine below_alloc ?_ ?_ _ | refine Below.setCell ?_ ?_ _ | refine below_step ?_ (by assumption) ?_ | omega | (simp only [zz] at *; omega)))))).mono ?_; rintro e w4 ⟨R4, M4, rfl, hb4, hR04, hM04, hR4⟩; have hz4 := hb4.size)
    | (go_at_call 64; refine (HBD1.out R4 M4 AO cO _ hR4).mono ?_; rintro e w5 ⟨A5, c5, rfl, hb5, hI5⟩; replace hb5 := hb5.below; have hz5 := hb5.size; obtain ⟨lb, lo5, rfl, hlb⟩ := hI5.form hl0; have c05 := hI5.at hl0; rw [HV0.out, Nat.add_zero] at c05)
    | (go_at_call 84; refine (HCMP.out _ _ _ _ _ (hIL.ext (by (repeat (first | exact Below.refl _ _ | assumption | refine below_drewN ?_ _ | refine below_drew ?_ | refine below_gr ?_ ?_ _ | refine below_alloc ?_ ?_ _ | refine Below.setCell ?_ ?_ _ | refine below_step ?_ (by assumption) ?_ | omega | (simp only [zz] at *; omega))))) (hIB.ext (by (repeat (first | exact Below.refl _ _ | assumption | refine below_drewN ?_ _ | refine below_drew ?_ | refine below_gr ?_ ?_ _ | refine below_alloc ?_ ?_ _ | refine Below.setCell ?_ ?_ _ | refine below_step ?_ (by assumption) ?_ | omega | (simp only [zz] at *; omega)))))).mono ?_; rintro e w6 ⟨rfl, hb6⟩; replace hb6 := ex_below hb6; have hz6 := hb6.size))

            exact ⟨⟨b + 1, o1, o2, AB, cB, by omega, by go_num, HFN, rfl, rfl, hIB.ext (by (repeat (first | exact Below.refl _ _ | assumption | refine below_drewN ?_ _ | refine below_drew ?_ | refine below_gr ?_ ?_ _ | refine below_alloc ?_ ?_ _ | refine Below.setCell ?_ ?_ _ | refine below_step ?_ (by assumption) ?_ | omega | (simp only [zz] at *; omega)))), ho3, by (repeat (first | exact Below.refl _ _ | assumption | (refine below_gr ?_ (by (first | omega | (simp only [zz] at *; omega))) _) | (refine below_alloc ?_ (by (first | omega | (simp only [zz] at *; omega))) _) | (refine Below.setCell ?_ (by (first | omega | (simp only [zz] at *; omega))) _) | refine below_drewN ?_ _ | refine below_drew ?_ | (refine below_step ?_ (by assumption) (by (first | omega | (simp only [zz] at *; omega))))))⟩, by simp [intOf]; omega⟩
          · have hPT : canB Wn (lts ts) lg lst = true := by rw [HPV1.out, decide_eq_true_eq]; omega
            have HQ := hide (show fo (b + 1) = if o1 = false ∨ lst.length < o2.length ∨ (lst.length = o2.length ∧ Tm.ltL lst o2 = true) then (true, lst) else (o1, o2) by rw [HFS1.out, HFB.out, HST1.out, if_pos hPT])
            clear hPT
            cases o1 with
            | false =>
              have HFN : Hid (fo (b + 1) = (true, lst)) := hide (by rw [HQ.out, if_pos (.inl rfl)])
              go_wp2_with (first
    | (go_at_call 55; refine (newReel_any (Wn : Nat) AO os cO _ (hSO.ext (by (repeat (first | exact Below.refl _ _ | assumption | refine below_drewN ?_ _ | refine below_drew ?_ | refine below_gr ?_ ?_ _ | refine below_alloc ?_ ?_ _ | refine Below.setCell ?_ ?_ _ | refine below_step ?_ (by assumption) ?_ | omega | (simp only [zz] at *; omega)))))).mono ?_; rintro e w4 ⟨R4, M4, rfl, hb4, hR04, hM04, hR4⟩; have hz4 := hb4.size)
    | (go_at_call 64; refine (HBD1.out R4 M4 AO cO _ hR4).mono ?_; rintro e w5 ⟨A5, c5, rfl, hb5, hI5⟩; replace hb5 := hb5.below; have hz5 := hb5.size; obtain ⟨lb, lo5, rfl, hlb⟩ := hI5.form hl0; have c05 := hI5.at hl0; rw [HV0.out, Nat.add_zero] at c05)
    | (go_at_call 84; refine (HCMP.out _ _ _ _ _ (hIL.ext (by (repeat (first | exact Below.refl _ _ | assumption | refine below_drewN ?_ _ | refine below_drew ?_ | refine below_gr ?_ ?_ _ | refine below_alloc ?_ ?_ _ | refine Below.setCell ?_ ?_ _ | refine below_step ?_ (by assumption) ?_ | omega | (simp only [zz] at *; omega))))) (hIB.ext (by (repeat (first | exact Below.refl _ _ | assumption | refine below_drewN ?_ _ | refine below_drew ?_ | refine below_gr ?_ ?_ _ | refine below_alloc ?_ ?_ _ | refine Below.setCell ?_ ?_ _ | refine below_step ?_ (by assumption) ?_ | omega | (simp only [zz] at *; omega)))))).mono ?_; rintro e w6 ⟨rfl, hb6⟩; replace hb6 := ex_below hb6; have hz6 := hb6.size))

              exact ⟨⟨b + 1, true, lst, AL, cL, by omega, by go_num, HFN, rfl, rfl, hIL.ext (by (repeat (first | exact Below.refl _ _ | assumption | refine below_drewN ?_ _ | refine below_drew ?_ | refine below_gr ?_ ?_ _ | refine below_alloc ?_ ?_ _ | refine Below.setCell ?_ ?_ _ | refine below_step ?_ (by assumption) ?_ | omega | (simp only [zz] at *; omega)))), by omega, by (repeat (first | exact Below.refl _ _ | assumption | (refine below_gr ?_ (by (first | omega | (simp only [zz] at *; omega))) _) | (refine below_alloc ?_ (by (first | omega | (simp only [zz] at *; omega))) _) | (refine Below.setCell ?_ (by (first | omega | (simp only [zz] at *; omega))) _) | refine below_drewN ?_ _ | refine below_drew ?_ | (refine below_step ?_ (by assumption) (by (first | omega | (simp only [zz] at *; omega))))))⟩, by simp [intOf]; omega⟩
            | true =>
              by_cases g1 : lst.length < o2.length
              · have HFN : Hid (fo (b + 1) = (true, lst)) := hide (by rw [HQ.out, if_pos (.inr (.inl g1))])
                have d1 : decide ((lst.length : Int) < (o2.length : Nat)) = true := decide_eq_true (by omega)
                have d2 : decide (lst.length < o2.length) = true := decide_eq_true g1
                go_wp2_with (first
    | (go_at_call 55; refine (newReel_any (Wn : Nat) AO os cO _ (hSO.ext (by (repeat (first | exact Below.refl _ _ | assumption | refine below_drewN ?_ _ | refine below_drew ?_ | refine below_gr ?_ ?_ _ | refine below_alloc ?_ ?_ _ | refine Below.setCell ?_ ?_ _ | refine below_step ?_ (by assumption) ?_ | omega | (simp only [zz] at *; omega)))))).mono ?_; rintro e w4 ⟨R4, M4, rfl, hb4, hR04, hM04, hR4⟩; have hz4 := hb4.size)
    | (go_at_call 64; refine (HBD1.out R4 M4 AO cO _ hR4).mono ?_; rintro e w5 ⟨A5, c5, rfl, hb5, hI5⟩; replace hb5 := hb5.below; have hz5 := hb5.size; obtain ⟨lb, lo5, rfl, hlb⟩ := hI5.form hl0; have c05 := hI5.at hl0; rw [HV0.out, Nat.add_zero] at c05)
    | (go_at_call 84; refine (HCMP.out _ _ _ _ _ (hIL.ext (by (repeat (first | exact Below.refl _ _ | assumption | refine below_drewN ?_ _ | refine below_drew ?_ | refine below_gr ?_ ?_ _ | refine below_alloc ?_ ?_ _ | refine Below.setCell ?_ ?_ _ | refine below_step ?_ (by assumption) ?_ | omega | (simp only [zz] at *; omega))))) (hIB.ext (by (repeat (first | exact Below.refl _ _ | assumption | refine below_drewN ?_ _ | refine below_drew ?_ | refine below_gr ?_ ?_ _ | refine below_alloc ?_ ?_ _ | refine Below.setCell ?_ ?_ _ | refine below_step ?_ (by assumption) ?_ | omega | (simp only [zz] at *; omega)))))).mono ?_; rintro e w6 ⟨rfl, hb6⟩; replace hb6 := ex_below hb6; have hz6 := hb6.size))

                exact ⟨⟨b + 1, true, lst, AL, cL, by omega, by go_num, HFN, rfl, rfl, hIL.ext (by (repeat (first | exact Below.refl _ _ | assumption | refine below_drewN ?_ _ | refine below_drew ?_ | refine below_gr ?_ ?_ _ | refine below_alloc ?_ ?_ _ | refine Below.setCell ?_ ?_ _ | refine below_step ?_ (by assumption) ?_ | omega | (simp only [zz] at *; omega)))), by omega, by (repeat (first | exact Below.refl _ _ | assumption | (refine below_gr ?_ (by (first | omega | (simp only [zz] at *; omega))) _) | (refine below_alloc ?_ (by (first | omega | (simp only [zz] at *; omega))) _) | (refine Below.setCell ?_ (by (first | omega | (simp only [zz] at *; omega))) _) | refine below_drewN ?_ _ | refine below_drew ?_ | (refine below_step ?_ (by assumption) (by (first | omega | (simp only [zz] at *; omega))))))⟩, by simp [intOf]; omega⟩
              · have d1 : decide ((lst.length : Int) < (o2.length : Nat)) = false := decide_eq_false (by omega)
                have d2 : decide (lst.length < o2.length) = false := decide_eq_false g1
                by_cases g2 : lst.length = o2.length
                · have d3 : ((lst.length : Int) == (o2.length : Nat)) = true := beq_iff_eq.2 (by omega)
                  have d4 : (lst.length == o2.length) = true := beq_iff_eq.2 g2
                  cases hlt2 : Tm.ltL lst o2 with
                  | true =>
                    have HFN : Hid (fo (b + 1) = (true, lst)) := hide (by rw [HQ.out, if_pos (.inr (.inr ⟨g2, hlt2⟩))])
                    have d5 : cmpL lst o2 < 0 := of_decide_eq_true (by rw [HCL.out]; exact hlt2)
                    replace g2 := hide g2
                    generalize cmpL lst o2 = cv at *
                    have d6 : decide (cv < 0) = true := decide_eq_true d5
                    go_wp2_with (first
    | (go_at_call 55; refine (newReel_any (Wn : Nat) AO os cO _ (hSO.ext (by (repeat (first | exact Below.refl _ _ | assumption | refine below_drewN ?_ _ | refine below_drew ?_ | refine below_gr ?_ ?_ _ | refine below_alloc ?_ ?_ _ | refine Below.setCell ?_ ?_ _ | refine below_step ?_ (by assumption) ?_ | omega | (simp only [zz] at *; omega)))))).mono ?_; rintro e w4 ⟨R4, M4, rfl, hb4, hR04, hM04, hR4⟩; have hz4 := hb4.size)
    | (go_at_call 64; refine (HBD1.out R4 M4 AO cO _ hR4).mono ?_; rintro e w5 ⟨A5, c5, rfl, hb5, hI5⟩; replace hb5 := hb5.below; have hz5 := hb5.size; obtain ⟨lb, lo5, rfl, hlb⟩ := hI5.form hl0; have c05 := hI5.at hl0; rw [HV0.out, Nat.add_zero] at c05)
    | (go_at_call 84; refine (HCMP.out _ _ _ _ _ (hIL.ext (by (repeat (first | exact Below.refl _ _ | assumption | refine below_drewN ?_ _ | refine below_drew ?_ | refine below_gr ?_ ?_ _ | refine below_alloc ?_ ?_ _ | refine Below.setCell ?_ ?_ _ | refine below_step ?_ (by assumption) ?_ | omega | (simp only [zz] at *; omega))))) (hIB.ext (by (repeat (first | exact Below.refl _ _ | assumption | refine below_drewN ?_ _ | refine below_drew ?_ | refine below_gr ?_ ?_ _ | refine below_alloc ?_ ?_ _ | refine Below.setCell ?_ ?_ _ | refine below_step ?_ (by assumption) ?_ | omega | (simp only [zz] at *; omega)))))).mono ?_; rintro e w6 ⟨rfl, hb6⟩; replace hb6 := ex_below hb6; have hz6 := hb6.size))

                    exact ⟨⟨b + 1, true, lst, AL, cL, by omega, by go_num, HFN, rfl, rfl, hIL.ext (by (repeat (first | exact Below.refl _ _ | assumption | refine below_drewN ?_ _ | refine below_drew ?_ | refine below_gr ?_ ?_ _ | refine below_alloc ?_ ?_ _ | refine Below.setCell ?_ ?_ _ | refine below_step ?_ (by assumption) ?_ | omega | (simp only [zz] at *; omega)))), by omega, by (repeat (first | exact Below.refl _ _ | assumption | (refine below_gr ?_ (by (first | omega | (simp only [zz] at *; omega))) _) | (refine below_alloc ?_ (by (first | omega | (simp only [zz] at *; omega))) _) | (refine Below.setCell ?_ (by (first | omega | (simp only [zz] at *; omega))) _) | refine below_drewN ?_ _ | refine below_drew ?_ | (refine below_step ?_ (by assumption) (by (first | omega | (simp only [zz] at *; omega))))))⟩, by simp [intOf]; omega⟩
                  | false =>
                    have HFN : Hid (fo (b + 1) = (true, o2)) := hide (by rw [HQ.out, if_neg (fun h => by rcases h with h | h | h; cases h; omega; rw [hlt2] at h; exact absurd h.2 (by simp))])
                    have d5 : ¬ cmpL lst o2 < 0 := of_decide_eq_false (by rw [HCL.out]; exact hlt2)
                    replace g2 := hide g2
                    generalize cmpL lst o2 = cv at *
                    have d6 : decide (cv < 0) = false := decide_eq_false d5
                    go_wp2_with (first
    | (go_at_call 55; refine (newReel_any (Wn : Nat) AO os cO _ (hSO.ext (by (repeat (first | exact Below.refl _ _ | assumption | refine below_drewN ?_ _ | refine below_drew ?_ | refine below_gr ?_ ?_ _ | refine below_alloc ?_ ?_ _ | refine Below.setCell ?_ ?_ _ | refine below_step ?_ (by assumption) ?_ | omega | (simp only [zz] at *; omega)))))).mono ?_; rintro e w4 ⟨R4, M4, rfl, hb4, hR04, hM04, hR4⟩; have hz4 := hb4.size)
    | (go_at_call 64; refine (HBD1.out R4 M4 AO cO _ hR4).mono ?_; rintro e w5 ⟨A5, c5, rfl, hb5, hI5⟩; replace hb5 := hb5.below; have hz5 := hb5.size; obtain ⟨lb, lo5, rfl, hlb⟩ := hI5.form hl0; have c05 := hI5.at hl0; rw [HV0.out, Nat.add_zero] at c05)
    | (go_at_call 84; refine (HCMP.out _ _ _ _ _ (hIL.ext (by (repeat (first | exact Below.refl _ _ | assumption | refine below_drewN ?_ _ | refine below_drew ?_ | refine below_gr ?_ ?_ _ | refine below_alloc ?_ ?_ _ | refine Below.setCell ?_ ?_ _ | refine below_step ?_ (by assumption) ?_ | omega | (simp only [zz] at *; omega))))) (hIB.ext (by (repeat (first | exact Below.refl _ _ | assumption | refine below_drewN ?_ _ | refine below_drew ?_ | refine below_gr ?_ ?_ _ | refine below_alloc ?_ ?_ _ | refine Below.setCell ?_ ?_ _ | refine below_step ?_ (by assumption) ?_ | omega | (simp only [zz] at *; omega)))))).mono ?_; rintro e w6 ⟨rfl, hb6⟩; replace hb6 := ex_below hb6; have hz6 := hb6.size))

                    exact ⟨⟨b + 1, true, o2, AB, cB, by omega, by go_num, HFN, rfl, rfl, hIB.ext (by (repeat (first | exact Below.refl _ _ | assumption | refine below_drewN ?_ _ | refine below_drew ?_ | refine below_gr ?_ ?_ _ | refine below_alloc ?_ ?_ _ | refine Below.setCell ?_ ?_ _ | refine below_step ?_ (by assumption) ?_ | omega | (simp only [zz] at *; omega)))), ho3, by (repeat (first | exact Below.refl _ _ | assumption | (refine below_gr ?_ (by (first | omega | (simp only [zz] at *; omega))) _) | (refine below_alloc ?_ (by (first | omega | (simp only [zz] at *; omega))) _) | (refine Below.setCell ?_ (by (first | omega | (simp only [zz] at *; omega))) _) | refine below_drewN ?_ _ | refine below_drew ?_ | (refine below_step ?_ (by assumption) (by (first | omega | (simp only [zz] at *; omega))))))⟩, by simp [intOf]; omega⟩
                · have d3 : ((lst.length : Int) == (o2.length : Nat)) = false := beq_eq_false_iff_ne.2 (by omega)
                  have d4 : (lst.length == o2.length) = false := beq_eq_false_iff_ne.2 g2
                  have HFN : Hid (fo (b + 1) = (true, o2)) := hide (by rw [HQ.out, if_neg (fun h => by rcases h with h | h | h; cases h; omega; exact g2 h.1)])
                  clear g2
                  go_wp2_with (first
    | (go_at_call 55; refine (newReel_any (Wn : Nat) AO os cO _ (hSO.ext (by (repeat (first | exact Below.refl _ _ | assumption | refine below_drewN ?_ _ | refine below_drew ?_ | refine below_gr ?_ ?_ _ | refine below_alloc ?_ ?_ _ | refine Below.setCell ?_ ?_ _ | refine below_step ?_ (by assumption) ?_ | omega | (simp only [zz] at *; omega)))))).mono ?_; rintro e w4 ⟨R4, M4, rfl, hb4, hR04, hM04, hR4⟩; have hz4 := hb4.size)
    | (go_at_call 64; refine (HBD1.out R4 M4 AO cO _ hR4).mono ?_; rintro e w5 ⟨A5, c5, rfl, hb5, hI5⟩; replace hb5 := hb5.below; have hz5 := hb5.size; obtain ⟨lb, lo5, rfl, hlb⟩ := hI5.form hl0; have c05 := hI5.at hl0; rw [HV0.out, Nat.add_zero] at c05)
    | (go_at_call 84; refine (HCMP.out _ _ _ _ _ (hIL.ext (by (repeat (first | exact Below.refl _ _ | assumption | refine below_drewN ?_ _ | refine below_drew ?_ | refine below_gr ?_ ?_ _ | refine below_alloc ?_ ?_ _ | refine Below.setCell ?_ ?_ _ | refine below_step ?_ (by assumption) ?_ | omega | (simp only [zz] at *; omega))))) (hIB.ext (by (repeat (first | exact Below.refl _ _ | assumption | refine below_drewN ?_ _ | refine below_drew ?_ | refine below_gr ?_ ?_ _ | refine below_alloc ?_ ?_ _ | refine Below.setCell ?_ ?_ _ | refine below_step ?_ (by assumption) ?_ | omega | (simp only [zz] at *; omega)))))).mono ?_; rintro e w6 ⟨rfl, hb6⟩; replace hb6 := ex_below hb6; have hz6 := hb6.size))

                  exact ⟨⟨b + 1, true, o2, AB, cB, by omega, by go_num, HFN, rfl, rfl, hIB.ext (by (repeat (first | exact Below.refl _ _ | assumption | refine below_drewN ?_ _ | refine below_drew ?_ | refine below_gr ?_ ?_ _ | refine below_alloc ?_ ?_ _ | refine Below.setCell ?_ ?_ _ | refine below_step ?_ (by assumption) ?_ | omega | (simp only [zz] at *; omega)))), ho3, by (repeat (first | exact Below.refl _ _ | assumption | (refine below_gr ?_ (by (first | omega | (simp only [zz] at *; omega))) _) | (refine below_alloc ?_ (by (first | omega | (simp only [zz] at *; omega))) _) | (refine Below.setCell ?_ (by (first | omega | (simp only [zz] at *; omega))) _) | refine below_drewN ?_ _ | refine below_drew ?_ | (refine below_step ?_ (by assumption) (by (first | omega | (simp only [zz] at *; omega))))))⟩, by simp [intOf]; omega⟩
    · have hbe : b = N := by omega
      have HFE : Hid (fin = (o1, o2)) := hide (by rw [← HFB.out, hbe, ← HGF.out, HFO.out])
      have hbi : ¬ ((b : Int) < (N : Nat)) := by omega
      clear hbe
      have hbw := hb1w.trans (hb.mono hb1w.size)
      go_wp2
      go_ret2
      unfold GivesIntsL
      exact ⟨AB, cB, by rw [HFE.out, natI_len]; rfl, grew_of hbw, by rw [HFE.out]; exact hIB⟩
set_option maxRecDepth 100000 in
set_option maxHeartbeats 1000000 in
theorem Wrong_any (W : Int) (A : Option Addr) (ts : List ByteArray) (c : Nat) (w : World) (hA : Strs w A ts) (hl : ts.length ≤ 1000) (hsz : ∀ k, (h : k < ts.length) → ts[k].size ≤ 1000000) (long : Int) : Calls Try.prog 37 #[.agg #[.int .i64 W, .slice A ts.length c], .int .i64 long] w (GivesIntsL w (wrgR W ts long)) := by
  by_cases h0 : openE W ts long = 0
  · obtain ⟨lg, rfl⟩ : ∃ lg : Nat, long = (lg : Nat) := ⟨long.toNat, by have := (open_val h0).2; simp [withinB, outB] at this; omega⟩
    obtain ⟨hW1, _⟩ := chk_val (open_val h0).1
    obtain ⟨Wn, rfl⟩ : ∃ Wn : Nat, W = (Wn : Nat) := ⟨W.toNat, by omega⟩
    exact wrg_ok Wn A ts c w hA hl hsz lg h0
  · have h1 : (openE W ts long != 0) = true := by simp [h0]
    rw [show wrgR W ts long = ([], openE W ts long) by simp [wrgR, h0]]
    unfold GivesIntsL
    go_enter Try.func37, Try.ntmps37
    go_wp2_with (first
    | (go_at_call 74; refine (open_bad W A ts c _ (hA.ext (by (repeat (first | exact Below.refl _ _ | assumption | refine below_drewN ?_ _ | refine below_drew ?_ | refine below_gr ?_ ?_ _ | refine below_alloc ?_ ?_ _ | refine Below.setCell ?_ ?_ _ | refine below_step ?_ (by assumption) ?_ | omega | (simp only [zz] at *; omega))))) hl hsz long h0).mono ?_; rintro e w1 ⟨rfl, hb1⟩; replace hb1 := ex_below hb1; have hz1 := hb1.size; (try simp only [zz] at hz1); have hs1 : w.heap.size < w1.heap.size := (by (first | omega | (simp only [zz] at *; omega))); have ho1 := own_cell hb1 (b := w.heap.size) (by (first | omega | (simp only [zz] at *; omega))); have hq1 := own_frozen hb1 (b := w.heap.size) (by (first | omega | (simp only [zz] at *; omega))); have hlt1 : ∀ b, b < w.heap.size → b < w1.heap.size := fun b hb => (by (first | omega | (simp only [zz] at *; omega))); have hc1 : ∀ b o, b < w.heap.size → w1.cell? ⟨b, o, none⟩ = w.cell? ⟨b, o, none⟩ := old_cell (by (repeat (first | exact Below.refl _ _ | assumption | refine below_drewN ?_ _ | refine below_drew ?_ | refine below_gr ?_ ?_ _ | refine below_alloc ?_ ?_ _ | refine Below.setCell ?_ ?_ _ | refine below_step ?_ (by assumption) ?_ | omega | (simp only [zz] at *; omega))))))

    go_ret2
    exact ⟨none, 0, rfl, grew_of (by (repeat (first | exact Below.refl _ _ | assumption | refine below_drewN ?_ _ | refine below_drew ?_ | refine below_gr ?_ ?_ _ | refine below_alloc ?_ ?_ _ | refine Below.setCell ?_ ?_ _ | refine below_step ?_ (by assumption) ?_ | omega | (simp only [zz] at *; omega)))), fun k x hk => (by cases hk)⟩
end Go.Proofs.Ytafncmgijbkomaa

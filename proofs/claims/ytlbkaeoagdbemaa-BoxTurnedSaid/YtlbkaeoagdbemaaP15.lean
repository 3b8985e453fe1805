/- Proved here: how many outcomes are covered, a part of the proofs about the box laws. Conditions: those that each theorem names, no others. -/
import Derived.Test.YtlbkaeoagdbemaaP14
import Derived.WalkKit
import Derived.WalkSpells
import Derived.WalkLawsBesides
import Derived.Below
import Derived.Deep.QuietTactic
import Derived.BigQuiet
import Derived.Deep.Light
import Derived.Test.YtlbkaeoagdbemaaP04
set_option linter.unusedSimpArgs false
set_option linter.unusedVariables false
namespace Go.Proofs.Ytlbkaeoagdbemaa
open Go.RowKit Go.Maps Go.Shelf
attribute [local go_sem] Oper.semAt_some
def covOne (won : List Nat) (p : Bm.Tk) : Nat := if p.2 = 0 then 0 else Bm.size (Bm.cutWon p.1 won)
def covTo (won : List Nat) (l : List Bm.Tk) : Nat := (l.map (covOne won)).sum
def coveredP (R : List Nat) (ts : List Bm.Tk) (won : List Nat) : Nat := covTo won (allParts R ts)
theorem covTo_snoc (won : List Nat) (l : List Bm.Tk) (p : Bm.Tk) : covTo won (l ++ [p]) = covTo won l + covOne won p := by simp [covTo]
theorem bAndW : ∀ x, x < 64 → ∀ i, i < 6 → bits BinOp.and .i64 ((x : Nat) : Int) (wrap64 ((2 : Int) ^ i)) = ((x &&& 2 ^ i : Nat) : Int) := by decide +kernel
theorem copy_all (W : World) (Y : Option Addr) (yc : Nat) (xs : List Nat) (h : I64 W Y (zs xs)) : ∃ w9, (Builtin.copy_ #[22, 22] 3 #[.slice (some ⟨W.heap.size, 0, none⟩) xs.length xs.length, .slice Y xs.length yc]).run Try.prog (W.alloc (.cells (Array.replicate xs.length (.int .i64 0)) 3)) = .ok (.int .i64 (xs.length : Nat)) w9 ∧ w9.heap[W.heap.size]? = some (.cells ((zs xs).map (Value.int .i64)).toArray 3 (0, 0)) ∧ Below W.heap.size W w9 := by
  have hnew : (W.alloc (.cells (Array.replicate xs.length (Value.int .i64 0)) 3)).heap[W.heap.size]? = some (.cells (Array.replicate xs.length (.int .i64 0)) 3 (0, 0)) := heap_alloc_new W _
  have hb : Below W.heap.size W (W.alloc (.cells (Array.replicate xs.length (Value.int .i64 0)) 3)) := below_alloc (Below.refl _ _) (Nat.le_refl _) _
  rcases Nat.eq_zero_or_pos xs.length with h0 | h0
  · have : xs = [] := List.eq_nil_of_length_eq_zero h0
    subst this
    refine ⟨_, run_copy_none (P := Try.prog) _ 22 22 3 3 _ _ 0 0 0 yc und22 siz3 (by simp), ?_, hb⟩
    rw [hnew]; simp [zs]
  · obtain ⟨ad, rfl, hsrc⟩ := i64_src (h.ext hb) (by rw [zs_len]; exact h0)
    have hrun := run_copy_row (P := Try.prog) (W.alloc (.cells (Array.replicate xs.length (Value.int .i64 0)) 3)) 22 22 3 3 W.heap.size 0 xs.length xs.length ad xs.length yc _ 3 ((zs xs).map (Value.int .i64)) und22 siz3 hnew (by simp [zs]) hsrc (by simp [zs]) (one_ints _)
    have hlen : goInt ((zs xs).map (Value.int .i64)).length = .int .i64 (xs.length : Nat) := by simp [goInt, zs]
    rw [hlen] at hrun
    refine ⟨_, hrun, ?_, Go.below_setRow hb (Nat.le_refl _) _⟩
    rw [setRow_heap _ _ _ _ _ _ hnew]
    simp [zs]
theorem OwnP.and {B : Nat} {I J : List Bm.Tk → World → Prop} (h : OwnP B I) (k : OwnP B J) : OwnP B (fun pre W => I pre W ∧ J pre W) :=
  fun pre W W' row hi hg hr => ⟨h pre W W' row hi.1 hg hr, k pre W W' row hi.2 hg hr⟩
theorem ownP_block {B b : Nat} {f : List Bm.Tk → Obj} (h : b < B) : OwnP B (fun pre W => W.heap[b]? = some (f pre)) := fun pre W W' row hi hg hr =>
  (hg.block b (obj_lt (show W.heap[b]? = some (f pre) from hi)) (fun e => by have := (hr b e.symm).1; omega)).trans hi
theorem ownP_below {B n : Nat} {w : World} (h : n ≤ B) (hn : n ≤ w.heap.size) : OwnP B (fun _ W => Below n w W) := fun pre W W' row hi hg hr =>
  ⟨hg.1.trans hi.1, hg.2.trans hi.2, hg.3.trans hi.3, Nat.le_trans hi.4 hg.size, fun k hk => (hg.block k (by have := hi.4; omega) (fun e => by have := (hr k e.symm).1; omega)).trans (hi.5 k hk)⟩
theorem ko_below {W W' : World} (h : Below W.heap.size W W') : KeepsOthers W W' := ⟨h.size, fun k o hk _ => (h.block k (obj_lt hk)).trans hk⟩
theorem KpR.setCell {lo hi : Nat} (X : World) {b o : Nat} (h1 : lo ≤ b) (h2 : b < hi) (v : Value) : KpR lo hi X (X.setCell ⟨b, o, none⟩ v) :=
  ⟨by rw [size_setCell]; exact Nat.le_refl _, fun k hk ho => Below.heap_setCell _ _ _ _ (by show k ≠ b; omega)⟩
theorem allParts_eq (R : List Nat) (ts : List Bm.Tk) : allParts R ts = (Bm.cutC (Bm.cols R ts 0) (Bm.alls ts)).map fun p => (p.1, Bm.vals ts p.2) := by
  unfold allParts Bm.partsC; simp
theorem cols_pos {R : List Nat} (ts : List Bm.Tk) (h : ∀ n, n ∈ R → 1 ≤ n) : ∀ x, x ∈ Bm.cols R ts 0 → 1 ≤ x.1 := fun x hx => by
  have : x.1 ∈ Bm.rns (Bm.cols R ts 0) := List.mem_map.2 ⟨x, hx, rfl⟩
  rw [Bm.cols_rns, List.drop_zero] at this
  exact h _ this
theorem allParts_box {R : List Nat} {ts : List Bm.Tk} (h : ∀ n, n ∈ R → 1 ≤ n) {p : Bm.Tk} (hp : p ∈ allParts R ts) : Bm.isBox R p.1 = true := by
  rw [allParts_eq] at hp
  obtain ⟨q, hq, rfl⟩ := List.mem_map.1 hp
  have := Bm.cut_box (cols_pos ts h) hq
  rwa [Bm.cols_rns, List.drop_zero] at this
theorem box64 {R S : List Nat} (h6 : ∀ n, n ∈ R → n ≤ 6) (h : Bm.isBox R S = true) : ∀ x, x ∈ S → x < 64 := fun x hx => by
  obtain ⟨k, hk, rfl⟩ := List.getElem_of_mem hx
  have hl := Bm.isBox_len h
  have := (Bm.isBox_at h k (by omega)).2
  rw [getD_at _ _ hk, getD_at _ _ (show k < R.length by omega)] at this
  exact Nat.lt_of_lt_of_le this (Bm.pow_le6 (h6 _ (List.getElem_mem _)))
theorem allParts_len {R : List Nat} {ts : List Bm.Tk} (h : ∀ n, n ∈ R → 1 ≤ n) (h6 : ∀ n, n ∈ R → n ≤ 6) (h5 : R.length ≤ 5) : (allParts R ts).length ≤ Bm.total R ∧ Bm.total R ≤ 7776 := by
  refine ⟨?_, Bm.total_le R h6 5 h5⟩
  rw [allParts_eq, List.length_map]
  have := Bm.cut_len (Bm.cols R ts 0) (Bm.alls ts) (cols_pos ts h)
  rwa [Bm.cols_rns, List.drop_zero] at this
theorem covOne_le {won : List Nat} {p : Bm.Tk} (h : p.1.length ≤ 5) : covOne won p ≤ 7776 := by
  unfold covOne
  split
  · omega
  · exact size_le _ 5 (by rw [Bm.cutWon_len]; exact h)
theorem cov_le {R : List Nat} {ts : List Bm.Tk} (h : ∀ n, n ∈ R → 1 ≤ n) (h6 : ∀ n, n ∈ R → n ≤ 6) (h5 : R.length ≤ 5) (won : List Nat) (l : List Bm.Tk) (hl : l <+: allParts R ts) : covTo won l ≤ 60466176 := by
  have h1 := allParts_len (ts := ts) h h6 h5
  have h2 := hl.length_le
  have key : ∀ m : List Bm.Tk, (∀ p, p ∈ m → p.1.length ≤ 5) → covTo won m ≤ m.length * 7776 := fun m => by
    induction m with
    | nil => intro _; simp [covTo]
    | cons a m ih =>
      intro hm
      have := ih (fun p hp => hm p (by simp [hp]))
      have := covOne_le (won := won) (hm a (by simp))
      simp only [covTo, List.map_cons, List.sum_cons, List.length_cons] at *
      omega
  have := key l (fun p hp => by rw [Bm.isBox_len (allParts_box h (hl.subset hp))]; exact h5)
  have : l.length ≤ 7776 := by omega
  omega
set_option maxRecDepth 100000 in
set_option maxHeartbeats 4000000 in
theorem covered_any (s : Nat) (A : Option Addr) (R : List Nat) (rc : Nat) (B : Option Addr) (ts : List Bm.Tk) (d : Nat) (w : World) (hS : SheetAt w s A (zs R) rc B (tz ts) d) (hR5 : R.length ≤ 5) (hR6 : ∀ n, n ∈ R → n ≤ 6) (ht10 : ts.length ≤ 10) (hu : ∀ t, t ∈ ts → t.2 ≤ 1000) (htl : ∀ t, t ∈ ts → t.1.length = R.length) (ht6 : ∀ t, t ∈ ts → ∀ x, x ∈ t.1 → x < 64) (X : Option Addr) (won : List Nat) (xc : Nat) (hX : I64 w X (zs won)) (hwl : won.length ≤ R.length) (hw6 : ∀ i, i ∈ won → i < 6) (hR1 : ∀ n, n ∈ R → 1 ≤ n) :
    Calls Try.prog 73 #[.pointer (some ⟨s, 0, none⟩), .slice X won.length xc] w (Gives w (.int .i64 (coveredP R ts won : Nat))) := by
  refine (callsIn_wide (n := 8)).1 ?_
  refine callsIn_of_wp_marks Try.func73 rfl trivial ?_ rfl
  simp only [Try.ntmps73, List.size_toArray, List.length_cons, List.length_nil, Nat.reduceAdd, Nat.reduceSub, Array.replicate_succ, Array.replicate_zero, List.push_toArray, List.append_toArray, List.nil_append, List.cons_append]
  refine wpIn_wide.2 ?_
  go_wp2_with (go_at_call 65; refine (parts_any (some ⟨s, 0, none⟩) _).mono ?_; rintro e w3 ⟨rfl, rfl⟩)
  have hbW0 : Below w.heap.size w (((w.alloc (.cells #[.slice X won.length xc] 22)).alloc (.cells #[.int .i64 0] 2)).alloc (.cells #[.pointer (some ⟨s, 0, none⟩)] 80)) := by (repeat (first | exact Below.refl _ _ | assumption | (refine below_gr ?_ (by (first | omega | (simp only [zz] at *; omega))) _) | (refine below_alloc ?_ (by (first | omega | (simp only [zz] at *; omega))) _) | (refine Below.setCell ?_ (by (first | omega | (simp only [zz] at *; omega))) _) | refine below_drewN ?_ _ | refine below_drew ?_ | (refine below_step ?_ (by assumption) (by (first | omega | (simp only [zz] at *; omega))))))
  have q3 : (((w.alloc (.cells #[.slice X won.length xc] 22)).alloc (.cells #[.int .i64 0] 2)).alloc (.cells #[.pointer (some ⟨s, 0, none⟩)] 80)).heap[w.heap.size]? = some (.cells #[.slice X won.length xc] 22 (0, 0)) := by
    rw [Below.heap_alloc _ _ _ (by simp; omega), heap_a]
  have q5 : (((w.alloc (.cells #[.slice X won.length xc] 22)).alloc (.cells #[.int .i64 0] 2)).alloc (.cells #[.pointer (some ⟨s, 0, none⟩)] 80)).heap[w.heap.size + 1]? = some (.cells #[.int .i64 0] 2 (0, 0)) := by
    have := heap_a (w.alloc (.cells #[.slice X won.length xc] 22)) (.cells #[.int .i64 0] 2) (.cells #[.pointer (some ⟨s, 0, none⟩)] 80)
    simpa using this
  have qB : (((w.alloc (.cells #[.slice X won.length xc] 22)).alloc (.cells #[.int .i64 0] 2)).alloc (.cells #[.pointer (some ⟨s, 0, none⟩)] 80)).cell? ⟨w.heap.size + 1 + 1, 0, none⟩ = some (.pointer (some ⟨s, 0, none⟩)) := by
    have := obj_at (heap_b (w.alloc (.cells #[.slice X won.length xc] 22)) (.cells #[.int .i64 0] 2) (.cells #[.pointer (some ⟨s, 0, none⟩)] 80)) 0 _ rfl
    simpa using this
  have hsz0 : (((w.alloc (.cells #[.slice X won.length xc] 22)).alloc (.cells #[.int .i64 0] 2)).alloc (.cells #[.pointer (some ⟨s, 0, none⟩)] 80)).heap.size = w.heap.size + 1 + 1 + 1 := by simp
  obtain ⟨W0, hW0⟩ : ∃ W0, (((w.alloc (.cells #[.slice X won.length xc] 22)).alloc (.cells #[.int .i64 0] 2)).alloc (.cells #[.pointer (some ⟨s, 0, none⟩)] 80)) = W0 := ⟨_, rfl⟩
  rw [hW0] at hbW0 q3 q5 qB hsz0 ⊢
  clear hW0
  refine (wpIn_wide (n := 8)).1 ?_
  refine range_parts s A R rc B ts d w hS hR5 hR6 ht10 hu htl ht6 (w.heap.size + 1 + 1) rfl rfl (fun b hb => hbW0.block b hb) (by omega) (by omega) qB
    (fun pre W => (W.heap[w.heap.size]? = some (.cells #[.slice X won.length xc] 22 (0, 0)) ∧ W.heap[w.heap.size + 1]? = some (.cells #[.int .i64 (covTo won pre : Nat)] 2 (0, 0))) ∧ Below w.heap.size w W)
    (((ownP_block (by omega)).and (ownP_block (by omega))).and (ownP_below (by omega) (Nat.le_refl _))) ⟨⟨q3, q5⟩, hbW0⟩
    (fun x y => { tmps := #[.pointer (some ⟨s, 0, none⟩), .slice X won.length xc, undef, .pointer (some ⟨w.heap.size, 0, none⟩), .int .i64 0, .pointer (some ⟨w.heap.size + 1, 0, none⟩), x, y, undef, undef, undef, .pointer (some ⟨s, 0, none⟩), .func (.func 88) #[] #[.pointer (some ⟨w.heap.size + 1 + 1, 0, none⟩)], x, y, undef, undef, undef, undef, undef, undef, undef, undef, undef, undef, undef, undef, undef, undef, undef, undef, undef, undef, undef, undef, undef, undef, undef, undef, undef, undef, undef, undef, undef], defers := [] }) ?assign ?body ?done
  case assign =>
    intro l x y W K hK
    gi_wp2
    exact hK
  case done =>
    rintro D W ⟨⟨i3, i5⟩, ib⟩ hD hk hDw
    have c5 := obj_at i5 0 _ rfl
    have hl5 := obj_lt i5
    go_wp2
    refine ⟨by simp, .inl ⟨_, _, rfl, run_takeDeferred hD, ?_⟩⟩
    exact ⟨.int .i64 (coveredP R ts won : Nat), by simp [results, Try.results73, go_sem, coveredP], gives_of rfl (ib.trans (belowK_b (w := w) (Nat.le_refl _) W D _ _ (by omega) hD rfl rfl))⟩
  case body =>
    rintro l pre S u Y yc W hpre ⟨⟨i3, i5⟩, ib⟩ hO hz hY hSl hyc hYh
    have hmem : (S, u) ∈ allParts R ts := hpre.subset (by simp)
    have hS64 := box64 hR6 (allParts_box hR1 hmem)
    have hsum := cov_le hR1 hR6 hR5 won _ hpre
    rw [covTo_snoc] at hsum
    have HSN := hide (covTo_snoc won pre (S, u))
    have c3 := obj_at i3 0 _ rfl
    have c5 := obj_at i5 0 _ rfl
    have hl3 := obj_lt i3
    have hl5 := obj_lt i5
    have HSL := hide hSl
    have hS5 : S.length ≤ 5 := by omega
    have hXW := hX.ext ib
    clear hmem hSl
    by_cases hu0 : u = 0
    · subst hu0
      have HV := hide (show covOne won (S, 0) = 0 from rfl)
      clear hsum
      gi_wp2
      refine ⟨KeepsOthers.refl _, KpR.refl _ _ _, ⟨i3, ?_⟩, ib⟩
      rw [HSN.out, HV.out, Nat.add_zero]; exact i5
    · have hub : ((u : Int) == 0) = false := by simp; exact hu0
      have HV := hide (show covOne won (S, u) = Bm.size (Bm.cutWon S won) by unfold covOne; rw [if_neg hu0])
      rw [show covOne won (S, u) = Bm.size (Bm.cutWon S won) by unfold covOne; rw [if_neg hu0]] at hsum
      clear hu0
      have hmk := make_zeros S.length (by omega)
      have HZS := hide (zs_len S)
      generalize covTo won pre = cv at *
      obtain ⟨w9, hcp, HG9, hB9⟩ := copy_all W Y yc S hY
      have hz9 := hB9.size
      have hl9 := obj_lt HG9
      have c39 := (hB9.cell (p := ⟨w.heap.size, 0, none⟩) hl3).trans c3
      have hl39 : w.heap.size < w9.heap.size := by omega
      have HG9' := hide HG9
      clear HG9
      gi_wp2
      gi_loopw [9, 10, 25] (fun _ _ t25 wr => ∃ k : Nat, k ≤ won.length ∧ t25 = .int .i64 k ∧ wr.heap[W.heap.size]? = some (.cells ((zs (Bm.cutWon S (won.take k))).map (Value.int .i64)).toArray 3 (0, 0)) ∧ Below W.heap.size W wr) (fun _ _ t25 _ => won.length - (intOf t25).toNat)
      case atStart => exact ⟨0, Nat.zero_le _, rfl, by rw [List.take_zero, Bm.cutWon_nil]; exact HG9'.out, hB9⟩
      case round =>
        obtain ⟨k, hk, rfl, hG, hb⟩ := hrel
        clear hcp hmk c39 hl39 hB9 hz9 hl9 HG9'
        have hzr := hb.size
        have hlG := obj_lt hG
        have hnb : w.heap.size + 1 ≠ W.heap.size := by omega
        by_cases hlt : k < won.length
        · have hXr := hXW.ext hb
          obtain ⟨xb, xo, rfl, hxb⟩ := zsF hXr (by omega)
          have hx0 := zsI hXr hlt
          have hkS : k < S.length := by rw [HSL.out]; omega
          have hi6 := hw6 won[k] (List.getElem_mem hlt)
          have hs6 := hS64 S[k] (List.getElem_mem hkS)
          have HST := hide (Bm.cutWon_step S won k hlt hkS)
          have hkl : k < (Bm.cutWon S (won.take k)).length := by rw [Bm.cutWon_len]; exact hkS
          have hke : (Bm.cutWon S (won.take k))[k] = S[k] := by rw [← getD_at _ _ hkl 0]; exact Bm.cutWon_keep S won k hkS
          have hck := obj_at hG k (.int .i64 (S[k] : Nat)) (by simp [zs, List.getElem?_eq_getElem hkl, hke])
          have hfk := obj_fz hG k
          have HSE := hide (fun o => zs_set (Bm.cutWon S (won.take k)) k o)
          have HAW := hide (bAndW S[k] hs6 won[k] hi6)
          clear hke hkl
          generalize won[k] = i at *
          generalize S[k] = x at *
          have hi0 : (0 : Int) ≤ (i : Int) := by omega
          have hi5 : (i : Int) ≤ 5 := by omega
          gi_wp2
          refine grow_tail_round 8 (by kernel_rfl) (by kernel_rfl) (by kernel_rfl) ?_
          simp only [List.take_succ_cons, List.take_zero, List.drop_succ_cons, List.drop_zero]
          repeat (go_big_quiet_step (fail))
          refine wpQuiet_nil ?_
          intro w5 hb5
          replace hb5 := ex_below hb5
          have hz5 := hb5.size
          have nG := (hb5.block _ hlG).trans hG
          have nck := (hb5.cell (p := ⟨W.heap.size, k, none⟩) hlG).trans hck
          have nfk := obj_fz nG k
          have hlG5 := obj_lt nG
          go_wp2
          rw [noOut_normal]
          gi_wp2
          refine ⟨⟨k + 1, by omega, by go_num, ?_, Below.setCell (p := ⟨W.heap.size, k, none⟩) (hb.trans (hb5.mono hzr)) (Nat.le_refl _) _⟩, by simp [intOf]; omega⟩
          rw [HST.out, ← HSE.out, ← HAW.out]
          exact set_obj nG k _
        · have hkn : k = won.length := by omega
          rw [hkn, List.take_length] at hG
          have hZ := i64_block hG
          have hCL := hide (Bm.cutWon_len S won)
          have HSZ := hide (fun w' (h : I64 w' (some ⟨W.heap.size, 0, none⟩) (zs (Bm.cutWon S won))) => by
            have := size_any (some ⟨W.heap.size, 0, none⟩) (Bm.cutWon S won) S.length w' h (by rw [Bm.cutWon_len]; exact hS5) (Bm.cutWon_mem hS64)
            rw [Bm.cutWon_len] at this
            exact this)
          have e5 := (hb.cell (p := ⟨w.heap.size + 1, 0, none⟩) hl5).trans c5
          have hO5 := (hb.block _ hl5).trans i5
          have hl5r := obj_lt hO5
          generalize Bm.size (Bm.cutWon S won) = z at *
          have hz0 : (0 : Int) ≤ (z : Int) := by omega
          have hz1 : (z : Int) ≤ 60466176 := by omega
          have hc0 : (0 : Int) ≤ (cv : Int) := by omega
          have hc1 : (cv : Int) ≤ 60466176 := by omega
          clear hkn
          gi_wp2
          refine grow_tail_round 4 (by kernel_rfl) (by kernel_rfl) (by kernel_rfl) ?_
          simp only [List.take_succ_cons, List.take_zero, List.drop_succ_cons, List.drop_zero]
          repeat (go_big_quiet_step ((go_at_call 62; exact Gives.quiet (HSZ.out _ (hZ.ext (by (repeat (first | exact Below.refl _ _ | assumption | refine below_drewN ?_ _ | refine below_drew ?_ | refine below_gr ?_ ?_ _ | refine below_alloc ?_ ?_ _ | refine Below.setCell ?_ ?_ _ | refine below_step ?_ (by assumption) ?_ | omega | (simp only [zz] at *; omega)))))))))
          refine wpQuiet_nil ?_
          intro w5 hb5
          replace hb5 := ex_below hb5
          have hz5 := hb5.size
          have n5 := (hb5.block _ hl5r).trans hO5
          have nf5 := obj_fz n5 0
          have nc5 := obj_at n5 0 _ rfl
          have nl5 := obj_lt n5
          go_wp2
          rw [noOut_normal]
          gi_wp2
          have hb15 : Below W.heap.size W w5 := hb.trans (hb5.mono hzr)
          have hs0 := set_obj n5 0 (.int .i64 ((cv : Int) + (z : Int)))
          refine ⟨(ko_below hb15).trans (KeepsOthers.setCell _ _ _), (KpR.below hb15).trans (KpR.setCell _ (by omega) (by omega) _), ⟨?_, ?_⟩, ?_⟩
          · rw [Below.heap_setCell _ _ _ _ (by show w.heap.size ≠ w.heap.size + 1; omega)]
            exact (hb15.block _ hl3).trans i3
          · rw [hs0, HSN.out, HV.out]; simp
          · exact Below.setCell (p := ⟨w.heap.size + 1, 0, none⟩) (ib.trans (hb15.mono ib.size)) (by show w.heap.size ≤ w.heap.size + 1; omega) _
end Go.Proofs.Ytlbkaeoagdbemaa

/- Proved here: a night; whether a letter is a window; how many letters of a window, or the error, a part of the proofs about the tape laws. Conditions: those that each theorem names, no others. -/
import Derived.Test.YtafncmgijbkomaaP08
import Derived.WalkKit
import Derived.WalkSpells
import Derived.WalkLawsBesides
import Derived.Below
import Derived.Deep.QuietTactic
import Derived.BigQuiet
import Derived.Deep.Light
import Derived.Test.YtafncmgijbkomaaP07
set_option linter.unusedSimpArgs false
set_option linter.unusedVariables false
namespace Go.Proofs.Ytafncmgijbkomaa
open Go.RowKit Go.Maps
/-- a night, or the error -/
def nightR (W : Int) (ts : List ByteArray) (long index : Int) : ByteArray × Int :=
  if openE W ts long ≠ 0 then (unlt [], openE W ts long) else if index < 0 ∨ 1099511627776 < index ∨ ((Tm.cntC W.toNat long.toNat (lts ts) : Nat) : Int) ≤ index then (unlt [], 3) else (unlt (Tm.nightA W.toNat long.toNat (lts ts) index.toNat), 0)
def strV (q : ByteArray × Int) : Value := .tuple #[.string q.1, .int .i64 q.2]
theorem unlt_nil : unlt [] = ⟨#[]⟩ := rfl
set_option maxRecDepth 100000 in
set_option maxHeartbeats 1000000 in
theorem Night_any (W : Int) (A : Option Addr) (ts : List ByteArray) (c : Nat) (w : World) (hA : Strs w A ts) (hl : ts.length ≤ 1000) (hsz : ∀ k, (h : k < ts.length) → ts[k].size ≤ 1000000) (long index : Int) : Calls Try.prog 32 #[.agg #[.int .i64 W, .slice A ts.length c], .int .i64 long, .int .i64 index] w (Gives w (strV (nightR W ts long index))) := by
  by_cases h0 : openE W ts long = 0
  · obtain ⟨lg, rfl⟩ : ∃ lg : Nat, long = (lg : Nat) := ⟨long.toNat, by have := (open_val h0).2; simp [withinB, outB] at this; omega⟩
    have hlg := open_lg h0
    have HC := hide (count_zero0 (open_val h0).1 A c lg hlg)
    obtain ⟨hW1, hW2, _, h3, hs, hf, _, _⟩ := chk_val (open_val h0).1
    have HN0 := hide (fun (ix : Nat) (hx : ix < Tm.cntC W.toNat lg (lts ts)) (R M : Nat) (w : World) (h : Reel R M W A ts c w) => night_any R M W A ts c h3 hf hs ⟨hW1, hW2⟩ lg ix hlg hx w h)
    have HV := hide (show nightR W ts (lg : Nat) index = if index < 0 ∨ 1099511627776 < index ∨ ((Tm.cntC W.toNat lg (lts ts) : Nat) : Int) ≤ index then (unlt [], (3 : Int)) else (unlt (Tm.nightA W.toNat lg (lts ts) index.toNat), (0 : Int)) by simp [nightR, h0])
    clear hs hf h3 hW1 hW2
    have hcm := cntC_most W.toNat lg (lts ts)
    generalize Tm.cntC W.toNat lg (lts ts) = C at *
    by_cases hx0 : index < 0
    · rw [HV.out, if_pos (.inl hx0), unlt_nil]
      unfold strV
      go_enter Try.func32, Try.ntmps32
      go_wp2_with (first
    | (go_at_call 74; refine (open_ok W A ts c _ (hA.ext (by (repeat (first | exact Below.refl _ _ | assumption | refine below_drewN ?_ _ | refine below_drew ?_ | refine below_gr ?_ ?_ _ | refine below_alloc ?_ ?_ _ | refine Below.setCell ?_ ?_ _ | refine below_step ?_ (by assumption) ?_ | omega | (simp only [zz] at *; omega))))) hl hsz lg h0).mono ?_; rintro e w1 ⟨R, M, rfl, hb1, hR0, hM0, hR1⟩; have hz1 := hb1.size; simp only [World.size_alloc] at hz1 hR0 hM0; have hbw1 : Below w.heap.size w w1 := below_step ((Below.refl _ w).alloc (Nat.le_refl _) _) hb1 (by simp only [World.size_alloc]; omega); clear hb1)
    | (go_at_call 75; refine (HC.out R M _ hR1).mono ?_; rintro e w2 ⟨rfl, hg2, hk2⟩; have hz2 := hg2.size; have hR2 := hR1.grown hg2 hk2; have hb12 : Below w.heap.size w w2 := gb_below hbw1 hg2 (by omega) (fun k hk => by have := Option.some.inj hk; omega)))

      go_ret2
      exact ⟨rfl, below_grow hbw1⟩
    · by_cases hx1 : 1099511627776 < index
      · rw [HV.out, if_pos (.inr (.inl hx1)), unlt_nil]
        unfold strV
        go_enter Try.func32, Try.ntmps32
        go_wp2_with (first
    | (go_at_call 74; refine (open_ok W A ts c _ (hA.ext (by (repeat (first | exact Below.refl _ _ | assumption | refine below_drewN ?_ _ | refine below_drew ?_ | refine below_gr ?_ ?_ _ | refine below_alloc ?_ ?_ _ | refine Below.setCell ?_ ?_ _ | refine below_step ?_ (by assumption) ?_ | omega | (simp only [zz] at *; omega))))) hl hsz lg h0).mono ?_; rintro e w1 ⟨R, M, rfl, hb1, hR0, hM0, hR1⟩; have hz1 := hb1.size; simp only [World.size_alloc] at hz1 hR0 hM0; have hbw1 : Below w.heap.size w w1 := below_step ((Below.refl _ w).alloc (Nat.le_refl _) _) hb1 (by simp only [World.size_alloc]; omega); clear hb1)
    | (go_at_call 75; refine (HC.out R M _ hR1).mono ?_; rintro e w2 ⟨rfl, hg2, hk2⟩; have hz2 := hg2.size; have hR2 := hR1.grown hg2 hk2; have hb12 : Below w.heap.size w w2 := gb_below hbw1 hg2 (by omega) (fun k hk => by have := Option.some.inj hk; omega)))

        go_ret2
        exact ⟨rfl, below_grow hbw1⟩
      · by_cases hx2 : ((C : Nat) : Int) ≤ index
        · rw [HV.out, if_pos (.inr (.inr hx2)), unlt_nil]
          unfold strV
          go_enter Try.func32, Try.ntmps32
          go_wp2_with (first
    | (go_at_call 74; refine (open_ok W A ts c _ (hA.ext (by (repeat (first | exact Below.refl _ _ | assumption | refine below_drewN ?_ _ | refine below_drew ?_ | refine below_gr ?_ ?_ _ | refine below_alloc ?_ ?_ _ | refine Below.setCell ?_ ?_ _ | refine below_step ?_ (by assumption) ?_ | omega | (simp only [zz] at *; omega))))) hl hsz lg h0).mono ?_; rintro e w1 ⟨R, M, rfl, hb1, hR0, hM0, hR1⟩; have hz1 := hb1.size; simp only [World.size_alloc] at hz1 hR0 hM0; have hbw1 : Below w.heap.size w w1 := below_step ((Below.refl _ w).alloc (Nat.le_refl _) _) hb1 (by simp only [World.size_alloc]; omega); clear hb1)
    | (go_at_call 75; refine (HC.out R M _ hR1).mono ?_; rintro e w2 ⟨rfl, hg2, hk2⟩; have hz2 := hg2.size; have hR2 := hR1.grown hg2 hk2; have hb12 : Below w.heap.size w w2 := gb_below hbw1 hg2 (by omega) (fun k hk => by have := Option.some.inj hk; omega)))

          go_ret2
          exact ⟨rfl, below_grow hb12⟩
        · obtain ⟨ix, rfl⟩ : ∃ ix : Nat, index = (ix : Nat) := ⟨index.toNat, by omega⟩
          rw [HV.out, if_neg (by omega)]
          have HN := hide (HN0.out ix (by omega))
          rw [Int.toNat_natCast] at *
          generalize Tm.nightA W.toNat lg (lts ts) ix = T at *
          unfold strV
          have hx3 : ¬ (((C : Nat) : Int) ≤ ((ix : Nat) : Int)) := hx2
          go_enter Try.func32, Try.ntmps32
          go_wp2_with (first
    | (go_at_call 74; refine (open_ok W A ts c _ (hA.ext (by (repeat (first | exact Below.refl _ _ | assumption | refine below_drewN ?_ _ | refine below_drew ?_ | refine below_gr ?_ ?_ _ | refine below_alloc ?_ ?_ _ | refine Below.setCell ?_ ?_ _ | refine below_step ?_ (by assumption) ?_ | omega | (simp only [zz] at *; omega))))) hl hsz lg h0).mono ?_; rintro e w1 ⟨R, M, rfl, hb1, hR0, hM0, hR1⟩; have hz1 := hb1.size; simp only [World.size_alloc] at hz1 hR0 hM0; have hbw1 : Below w.heap.size w w1 := below_step ((Below.refl _ w).alloc (Nat.le_refl _) _) hb1 (by simp only [World.size_alloc]; omega); clear hb1)
    | (go_at_call 75; refine (HC.out R M _ hR1).mono ?_; rintro e w2 ⟨rfl, hg2, hk2⟩; have hz2 := hg2.size; have hR2 := hR1.grown hg2 hk2; have hb12 : Below w.heap.size w w2 := gb_below hbw1 hg2 (by omega) (fun k hk => by have := Option.some.inj hk; omega))
    | (go_at_call 78; refine (HN.out R M _ hR2).mono ?_; rintro e w3 ⟨rfl, hg3, hk3⟩; have hz3 := hg3.size; have hb13 : Below w.heap.size w w3 := gb_below hb12 hg3 (by omega) (fun k hk => by have := Option.some.inj hk; omega)))

          go_ret2
          exact ⟨rfl, below_grow hb13⟩
  · have HV := hide (show nightR W ts long index = (unlt [], openE W ts long) by simp [nightR, h0])
    have h1 : (openE W ts long != 0) = true := by simp [h0]
    rw [HV.out, unlt_nil]
    unfold strV
    go_enter Try.func32, Try.ntmps32
    go_wp2_with (first
    | (go_at_call 74; refine (open_bad W A ts c _ (hA.ext (by (repeat (first | exact Below.refl _ _ | assumption | refine below_drewN ?_ _ | refine below_drew ?_ | refine below_gr ?_ ?_ _ | refine below_alloc ?_ ?_ _ | refine Below.setCell ?_ ?_ _ | refine below_step ?_ (by assumption) ?_ | omega | (simp only [zz] at *; omega))))) hl hsz long h0).mono ?_; rintro e w1 ⟨rfl, hb1⟩; replace hb1 := ex_below hb1; have hz1 := hb1.size; (try simp only [zz] at hz1); have hs1 : w.heap.size < w1.heap.size := (by (first | omega | (simp only [zz] at *; omega))); have ho1 := own_cell hb1 (b := w.heap.size) (by (first | omega | (simp only [zz] at *; omega))); have hq1 := own_frozen hb1 (b := w.heap.size) (by (first | omega | (simp only [zz] at *; omega))); have hlt1 : ∀ b, b < w.heap.size → b < w1.heap.size := fun b hb => (by (first | omega | (simp only [zz] at *; omega))); have hc1 : ∀ b o, b < w.heap.size → w1.cell? ⟨b, o, none⟩ = w.cell? ⟨b, o, none⟩ := old_cell (by (repeat (first | exact Below.refl _ _ | assumption | refine below_drewN ?_ _ | refine below_drew ?_ | refine below_gr ?_ ?_ _ | refine below_alloc ?_ ?_ _ | refine Below.setCell ?_ ?_ _ | refine below_step ?_ (by assumption) ?_ | omega | (simp only [zz] at *; omega))))))

    go_ret2
    exact gives_of (rfl) (by (repeat (first | exact Below.refl _ _ | assumption | refine below_drewN ?_ _ | refine below_drew ?_ | refine below_gr ?_ ?_ _ | refine below_alloc ?_ ?_ _ | refine Below.setCell ?_ ?_ _ | refine below_step ?_ (by assumption) ?_ | omega | (simp only [zz] at *; omega))))
/-- whether a letter is a window -/
def isWin (W : Int) (b : Nat) : Bool := decide (97 ≤ b) && decide ((b : Int) - 97 < W)
set_option maxRecDepth 100000 in
set_option maxHeartbeats 1000000 in
theorem isWindow_any (W : Int) (A : Option Addr) (ts : List ByteArray) (c : Nat) (w : World) (b : Nat) (hb : b < 256) : Calls Try.prog 80 #[.agg #[.int .i64 W, .slice A ts.length c], .int .u8 (b : Nat)] w (Gives w (.bool (isWin W b))) := by
  have HV : isS W ⟨#[UInt8.ofNat b]⟩ = isWin W b := by
    have : lt ⟨#[UInt8.ofNat b]⟩ = [(b : Int) - 97] := by
      unfold lt
      simp
      omega
    unfold isS isWin
    rw [this]
    simp
    congr 1
    rw [decide_eq_decide]; omega
  have hcv := fun (X : World) (h : X.cell? ⟨w.heap.size + 1, 0, none⟩ = some (.int .u8 (b : Nat))) => run_convert_bytes_back (P := Try.prog) X 57 9 5 ⟨w.heap.size + 1, 0, none⟩ 1 [UInt8.ofNat b] und57 und5 und9 (fun j hj => by
    have : j = 0 := by simp at hj; omega
    subst this
    rw [add_none, Nat.zero_add, h]
    simp
    omega)
  have hc2 := hcv ((w.alloc (.cells #[.int .i64 W, .slice A ts.length c] 24)).alloc (.cells #[.int .u8 (b : Nat)] 5)) (obj_at (by have := heap_alloc_new (w.alloc (.cells #[.int .i64 W, .slice A ts.length c] 24)) (.cells #[.int .u8 (b : Nat)] 5); simpa using this) 0 _ rfl)
  have HV := hide HV
  clear hcv
  simp only [List.length_cons, List.length_nil, Nat.zero_add] at hc2
  go_enter Try.func80, Try.ntmps80
  go_wp2_with (first
    | (go_at_call 54; refine (isString_any W _ _ (by simp [ByteArray.size])).mono ?_; rintro e w1 ⟨rfl, hb1⟩; replace hb1 := ex_below hb1; have hz1 := hb1.size; (try simp only [zz] at hz1); have hlt1 : ∀ b, b < w.heap.size → b < w1.heap.size := fun b hb => (by (first | omega | (simp only [zz] at *; omega))); have hc1 : ∀ b o, b < w.heap.size → w1.cell? ⟨b, o, none⟩ = w.cell? ⟨b, o, none⟩ := old_cell (by (repeat (first | exact Below.refl _ _ | assumption | refine below_drewN ?_ _ | refine below_drew ?_ | refine below_gr ?_ ?_ _ | refine below_alloc ?_ ?_ _ | refine Below.setCell ?_ ?_ _ | refine below_step ?_ (by assumption) ?_ | omega | (simp only [zz] at *; omega))))))

  go_ret
  exact gives_of (rfl) (by (repeat (first | exact Below.refl _ _ | assumption | refine below_drewN ?_ _ | refine below_drew ?_ | refine below_gr ?_ ?_ _ | refine below_alloc ?_ ?_ _ | refine Below.setCell ?_ ?_ _ | refine below_step ?_ (by assumption) ?_ | omega | (simp only [zz] at *; omega))))
end Go.Proofs.Ytafncmgijbkomaa
namespace Go.Proofs.Ytafncmgijbkomaa
open Go.RowKit Go.Maps
theorem below_grown2 {M K : Nat} {w a b : World} (h : Below w.heap.size w a) (g : Grown2 M K a b) (hM : w.heap.size ≤ M) (hK : w.heap.size ≤ K) : Below w.heap.size w b :=
  ⟨g.os.trans h.1, g.tape.trans h.2, g.out.trans h.3, Nat.le_trans h.size g.size, fun k hk => (g.block k (Nat.lt_of_lt_of_le hk h.size) (by omega) (by omega)).trans (h.block k hk)⟩
/-- how many letters of a window, or the error -/
def pullsA (W : Int) (ts : List ByteArray) (long : Int) (b : Nat) : (Int × Int) × Int :=
  if openE W ts long ≠ 0 then ((0, 0), openE W ts long) else if isWin W b = false then ((0, 0), 2) else if Tm.cntC W.toNat long.toNat (lts ts) = 0 then ((0, 0), 24) else (Tm.pullsP W.toNat ((b : Int) - 97) long.toNat (lts ts), 0)
def rngE (q : (Int × Int) × Int) : Value := .tuple #[.agg #[.int .i64 q.1.1, .int .i64 q.1.2], .int .i64 q.2]
set_option maxRecDepth 100000 in
set_option maxHeartbeats 1000000 in
theorem Pulls_any (W : Int) (A : Option Addr) (ts : List ByteArray) (c : Nat) (w : World) (hA : Strs w A ts) (hl : ts.length ≤ 1000) (hsz : ∀ k, (h : k < ts.length) → ts[k].size ≤ 1000000) (b : Nat) (hb : b < 256) (long : Int) : Calls Try.prog 35 #[.agg #[.int .i64 W, .slice A ts.length c], .int .i64 long, .int .u8 (b : Nat)] w (Gives w (rngE (pullsA W ts long b))) := by
  by_cases h0 : openE W ts long = 0
  · obtain ⟨lg, rfl⟩ : ∃ lg : Nat, long = (lg : Nat) := ⟨long.toNat, by have := (open_val h0).2; simp [withinB, outB] at this; omega⟩
    have hlg := open_lg h0
    have HC := hide (count_zero0 (open_val h0).1 A c lg hlg)
    obtain ⟨hW1, hW2, _, h3, hs, hf, _, _⟩ := chk_val (open_val h0).1
    have hmm := @run_makeMap Try.prog
    have HV := hide (show pullsA W ts (lg : Nat) b = if isWin W b = false then (((0 : Int), (0 : Int)), (2 : Int)) else if Tm.cntC W.toNat lg (lts ts) = 0 then ((0, 0), 24) else (Tm.pullsP W.toNat ((b : Int) - 97) lg (lts ts), 0) by simp [pullsA, h0])
    have HP : Hid (∀ (R M : Nat) (w : World), Reel R M W A ts c w → Calls Try.prog 81 #[.pointer (some ⟨R, 0, none⟩), .agg #[.int .i64 0, .int .i64 0, .int .i64 0, .int .i64 (lg : Nat)], .int .i64 ((b : Int) - 97), .map (some w.heap.size)] (w.alloc (.map #[] 0)) (Gives2 (w.alloc (.map #[] 0)) M w.heap.size (fun w' => (KMap 109 M (goodC W.toNat (lts ts))) w' ∧ (KMap 109 w.heap.size (goodR W.toNat ((b : Int) - 97) (lts ts))) w') (.agg #[.int .i64 (Tm.pullsP W.toNat ((b : Int) - 97) lg (lts ts)).1, .int .i64 (Tm.pullsP W.toNat ((b : Int) - 97) lg (lts ts)).2]))) := hide (fun R M w h => by
      have hlt := h.lt
      have := pulls_any R M W A ts c h3 hf hs ⟨hW1, hW2⟩ ((b : Int) - 97) w.heap.size (by omega) (by omega) (fun k s hks => by obtain ⟨b', o, e, hb'⟩ := strs_low h.str k s hks; exact ⟨b', o, e, by omega⟩) lg hlg (Tm.zeroP (lts ts)) (w.alloc (.map #[] 0)) (Tm.zero_is _) (h.below ((Below.refl _ _).alloc (Nat.le_refl _) _)) (KMap.made w _ _)
      rw [zero_st, Tm.rem_zero] at this
      exact this)
    clear hs hf h3 hW1 hW2
    cases hw : isWin W b with
    | false =>
      rw [HV.out, if_pos hw]
      unfold rngE
      go_enter Try.func35, Try.ntmps35
      go_wp2_with (first
    | (go_at_call 74; refine (open_ok W A ts c _ (hA.ext (by (repeat (first | exact Below.refl _ _ | assumption | refine below_drewN ?_ _ | refine below_drew ?_ | refine below_gr ?_ ?_ _ | refine below_alloc ?_ ?_ _ | refine Below.setCell ?_ ?_ _ | refine below_step ?_ (by assumption) ?_ | omega | (simp only [zz] at *; omega))))) hl hsz lg h0).mono ?_; rintro e w1 ⟨R, M, rfl, hb1, hR0, hM0, hR1⟩; have hz1 := hb1.size; simp only [World.size_alloc] at hz1 hR0 hM0; have hbw1 : Below w.heap.size w w1 := below_step (below_alloc (below_alloc (Below.refl _ w) (Nat.le_refl _) _) (by simp) _) hb1 (by simp only [World.size_alloc]; omega); have hX1 := (hb1.block w.heap.size (by simp only [World.size_alloc]; omega)).trans (heap_a _ _ _); have hO1 := (hb1.block (w.heap.size + 1) (by simp only [World.size_alloc]; omega)).trans (heap_b _ _ _); have x01 := obj_at hX1 0 _ rfl; have x11 := obj_at hX1 1 _ rfl; clear hb1; have o01 := obj_at hO1 0 _ rfl; have o11 := obj_at hO1 1 _ rfl; have p01 := obj_fz hO1 0; have p11 := obj_fz hO1 1)
    | (go_at_call 80; refine (isWindow_any W A ts c _ b hb).mono ?_; rintro e wi ⟨rfl, hbi⟩; replace hbi := ex_below hbi; have hzi := hbi.size; have hRi := hR1.below hbi; have hbwi : Below w.heap.size w wi := below_step hbw1 hbi (by omega); have hOi := (hbi.block (w.heap.size + 1) (by omega)).trans hO1; have o0i := obj_at hOi 0 _ rfl; have o1i := obj_at hOi 1 _ rfl; have p0i := obj_fz hOi 0; have p1i := obj_fz hOi 1))

      have s0 := set_obj hOi 0 (.int .i64 0)
      have s1 := set_obj s0 1 (.int .i64 0)
      have k0 := obj_at s1 0 (.int .i64 0) rfl
      have k1 := obj_at s1 1 (.int .i64 0) rfl
      refine bodyPost_ret (v := .tuple #[.agg #[.int .i64 0, .int .i64 0], .int .i64 2]) (by simp [results, Try.results35, go_sem, k0, k1]) rfl ⟨rfl, below_grow (Below.setCell (p := ⟨_, 1, none⟩) (Below.setCell (p := ⟨_, 0, none⟩) hbwi (by simp) _) (by simp) _)⟩
    | true =>
      have hwb : 97 ≤ b := by simp [isWin] at hw; exact hw.1
      have hwb2 : (97 : Int) ≤ (b : Int) ∧ (b : Int) ≤ 255 := by omega
      rw [HV.out, if_neg (by simp [hw])]
      generalize Tm.cntC W.toNat lg (lts ts) = C at *
      by_cases hC : C = 0
      · have hCz : ((C : Int) == 0) = true := by simp; omega
        rw [if_pos hC]
        unfold rngE
        clear hC
        go_enter Try.func35, Try.ntmps35
        go_wp2_with (first
    | (go_at_call 74; refine (open_ok W A ts c _ (hA.ext (by (repeat (first | exact Below.refl _ _ | assumption | refine below_drewN ?_ _ | refine below_drew ?_ | refine below_gr ?_ ?_ _ | refine below_alloc ?_ ?_ _ | refine Below.setCell ?_ ?_ _ | refine below_step ?_ (by assumption) ?_ | omega | (simp only [zz] at *; omega))))) hl hsz lg h0).mono ?_; rintro e w1 ⟨R, M, rfl, hb1, hR0, hM0, hR1⟩; have hz1 := hb1.size; simp only [World.size_alloc] at hz1 hR0 hM0; have hbw1 : Below w.heap.size w w1 := below_step (below_alloc (below_alloc (Below.refl _ w) (Nat.le_refl _) _) (by simp) _) hb1 (by simp only [World.size_alloc]; omega); have hX1 := (hb1.block w.heap.size (by simp only [World.size_alloc]; omega)).trans (heap_a _ _ _); have hO1 := (hb1.block (w.heap.size + 1) (by simp only [World.size_alloc]; omega)).trans (heap_b _ _ _); have x01 := obj_at hX1 0 _ rfl; have x11 := obj_at hX1 1 _ rfl; clear hb1; have o01 := obj_at hO1 0 _ rfl; have o11 := obj_at hO1 1 _ rfl; have p01 := obj_fz hO1 0; have p11 := obj_fz hO1 1)
    | (go_at_call 80; refine (isWindow_any W A ts c _ b hb).mono ?_; rintro e wi ⟨rfl, hbi⟩; replace hbi := ex_below hbi; have hzi := hbi.size; have hRi := hR1.below hbi; have hbwi : Below w.heap.size w wi := below_step hbw1 hbi (by omega); have hOi := (hbi.block (w.heap.size + 1) (by omega)).trans hO1; have o0i := obj_at hOi 0 _ rfl; have o1i := obj_at hOi 1 _ rfl; have p0i := obj_fz hOi 0; have p1i := obj_fz hOi 1)
    | (go_at_call 75; refine (HC.out R M _ hRi).mono ?_; rintro e w2 ⟨rfl, hg2, hk2⟩; have hz2 := hg2.size; have hR2 := hRi.grown hg2 hk2; have hb12 : Below w.heap.size w w2 := gb_below hbwi hg2 (by omega) (fun k hk => by have := Option.some.inj hk; omega); have hO2 := (hg2.block (w.heap.size + 1) (by omega) (by simp; omega)).trans hOi; have o02 := obj_at hO2 0 _ rfl; have o12 := obj_at hO2 1 _ rfl; have p02 := obj_fz hO2 0; have p12 := obj_fz hO2 1))

        have s0 := set_obj hO2 0 (.int .i64 0)
        have s1 := set_obj s0 1 (.int .i64 0)
        have k0 := obj_at s1 0 (.int .i64 0) rfl
        have k1 := obj_at s1 1 (.int .i64 0) rfl
        refine bodyPost_ret (v := .tuple #[.agg #[.int .i64 0, .int .i64 0], .int .i64 24]) (by simp [results, Try.results35, go_sem, k0, k1]) rfl ⟨rfl, below_grow (Below.setCell (p := ⟨_, 1, none⟩) (Below.setCell (p := ⟨_, 0, none⟩) hb12 (by simp) _) (by simp) _)⟩
      · have hCz : ((C : Int) == 0) = false := by simp; omega
        rw [if_neg hC]
        clear hC
        obtain ⟨lo, hi, HPE⟩ : ∃ lo hi : Int, Hid (Tm.pullsP W.toNat ((b : Int) - 97) lg (lts ts) = (lo, hi)) := ⟨_, _, hide rfl⟩
        have HP2 := HP.out
        rw [HPE.out] at HP2 ⊢
        unfold rngE
        simp only at HP2 ⊢
        clear HP
        have HP := hide HP2
        clear HP2
        go_enter Try.func35, Try.ntmps35
        go_wp2_with (first
    | (go_at_call 74; refine (open_ok W A ts c _ (hA.ext (by (repeat (first | exact Below.refl _ _ | assumption | refine below_drewN ?_ _ | refine below_drew ?_ | refine below_gr ?_ ?_ _ | refine below_alloc ?_ ?_ _ | refine Below.setCell ?_ ?_ _ | refine below_step ?_ (by assumption) ?_ | omega | (simp only [zz] at *; omega))))) hl hsz lg h0).mono ?_; rintro e w1 ⟨R, M, rfl, hb1, hR0, hM0, hR1⟩; have hz1 := hb1.size; simp only [World.size_alloc] at hz1 hR0 hM0; have hbw1 : Below w.heap.size w w1 := below_step (below_alloc (below_alloc (Below.refl _ w) (Nat.le_refl _) _) (by simp) _) hb1 (by simp only [World.size_alloc]; omega); have hX1 := (hb1.block w.heap.size (by simp only [World.size_alloc]; omega)).trans (heap_a _ _ _); have hO1 := (hb1.block (w.heap.size + 1) (by simp only [World.size_alloc]; omega)).trans (heap_b _ _ _); have x01 := obj_at hX1 0 _ rfl; have x11 := obj_at hX1 1 _ rfl; clear hb1; have o01 := obj_at hO1 0 _ rfl; have o11 := obj_at hO1 1 _ rfl; have p01 := obj_fz hO1 0; have p11 := obj_fz hO1 1)
    | (go_at_call 80; refine (isWindow_any W A ts c _ b hb).mono ?_; rintro e wi ⟨rfl, hbi⟩; replace hbi := ex_below hbi; have hzi := hbi.size; have hRi := hR1.below hbi; have hbwi : Below w.heap.size w wi := below_step hbw1 hbi (by omega); have hOi := (hbi.block (w.heap.size + 1) (by omega)).trans hO1; have o0i := obj_at hOi 0 _ rfl; have o1i := obj_at hOi 1 _ rfl; have p0i := obj_fz hOi 0; have p1i := obj_fz hOi 1)
    | (go_at_call 75; refine (HC.out R M _ hRi).mono ?_; rintro e w2 ⟨rfl, hg2, hk2⟩; have hz2 := hg2.size; have hR2 := hRi.grown hg2 hk2; have hb12 : Below w.heap.size w w2 := gb_below hbwi hg2 (by omega) (fun k hk => by have := Option.some.inj hk; omega); have hO2 := (hg2.block (w.heap.size + 1) (by omega) (by simp; omega)).trans hOi; have o02 := obj_at hO2 0 _ rfl; have o12 := obj_at hO2 1 _ rfl; have p02 := obj_fz hO2 0; have p12 := obj_fz hO2 1)
    | (go_at_call 81; refine (HP.out R M w2 hR2).mono ?_; rintro e w3 ⟨rfl, hg3, hk3⟩; have hz3 := hg3.size; simp only [World.size_alloc] at hz3; have hb13 : Below w.heap.size w w3 := below_grown2 (below_alloc hb12 (by omega) _) hg3 (by omega) (by omega); have hO3 := (hg3.block (w.heap.size + 1) (by simp; omega) (by omega) (by omega)).trans ((Below.heap_alloc _ _ _ (by omega)).trans hO2); have o03 := obj_at hO3 0 _ rfl; have o13 := obj_at hO3 1 _ rfl; have p03 := obj_fz hO3 0; have p13 := obj_fz hO3 1))

        have s0 := set_obj hO3 0 (.int .i64 lo)
        have s1 := set_obj s0 1 (.int .i64 hi)
        have k0 := obj_at s1 0 (.int .i64 lo) rfl
        have k1 := obj_at s1 1 (.int .i64 hi) rfl
        refine bodyPost_ret (v := .tuple #[.agg #[.int .i64 lo, .int .i64 hi], .int .i64 0]) (by simp [results, Try.results35, go_sem, k0, k1]) rfl ⟨rfl, below_grow (Below.setCell (p := ⟨_, 1, none⟩) (Below.setCell (p := ⟨_, 0, none⟩) hb13 (by simp) _) (by simp) _)⟩
  · have HV := hide (show pullsA W ts long b = ((0, 0), openE W ts long) by simp [pullsA, h0])
    have h1 : (openE W ts long != 0) = true := by simp [h0]
    rw [HV.out]
    unfold rngE
    go_enter Try.func35, Try.ntmps35
    go_wp2_with (first
    | (go_at_call 74; refine (open_bad W A ts c _ (hA.ext (by (repeat (first | exact Below.refl _ _ | assumption | refine below_drewN ?_ _ | refine below_drew ?_ | refine below_gr ?_ ?_ _ | refine below_alloc ?_ ?_ _ | refine Below.setCell ?_ ?_ _ | refine below_step ?_ (by assumption) ?_ | omega | (simp only [zz] at *; omega))))) hl hsz long h0).mono ?_; rintro e w1 ⟨rfl, hb1⟩; replace hb1 := ex_below hb1; have hz1 := hb1.size; simp only [World.size_alloc] at hz1; have hO1 := (hb1.block (w.heap.size + 1) (by simp only [World.size_alloc]; omega)).trans (heap_b _ _ _); have hbw1 : Below w.heap.size w w1 := below_step (below_alloc (below_alloc (Below.refl _ w) (Nat.le_refl _) _) (by simp) _) hb1 (by simp only [World.size_alloc]; omega); have o01 := obj_at hO1 0 _ rfl; have o11 := obj_at hO1 1 _ rfl; have p01 := obj_fz hO1 0; have p11 := obj_fz hO1 1))

    have s0 := set_obj hO1 0 (.int .i64 0)
    have s1 := set_obj s0 1 (.int .i64 0)
    have k0 := obj_at s1 0 (.int .i64 0) rfl
    have k1 := obj_at s1 1 (.int .i64 0) rfl
    refine bodyPost_ret (v := .tuple #[.agg #[.int .i64 0, .int .i64 0], .int .i64 (openE W ts long)]) (by simp [results, Try.results35, go_sem, k0, k1]) rfl ⟨rfl, below_grow (Below.setCell (p := ⟨_, 1, none⟩) (Below.setCell (p := ⟨_, 0, none⟩) hbw1 (by simp) _) (by simp) _)⟩

end Go.Proofs.Ytafncmgijbkomaa

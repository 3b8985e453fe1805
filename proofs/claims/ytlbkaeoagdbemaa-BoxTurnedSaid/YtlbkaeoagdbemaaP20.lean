/- Proved here: the first outcome, a part of the proofs about the box laws. Conditions: those that each theorem names, no others. -/
import Derived.Test.YtlbkaeoagdbemaaP19
import Derived.WalkKit
import Derived.WalkSpells
import Derived.WalkLawsBesides
import Derived.Below
import Derived.Deep.QuietTactic
import Derived.BigQuiet
import Derived.Deep.Light
import Derived.Deep.WholeRow
set_option linter.unusedSimpArgs false
set_option linter.unusedVariables false
namespace Go.Proofs.Ytlbkaeoagdbemaa
open Go.RowKit Go.Maps
@[go_sem] theorem run_store_fn (P : Program) (w : World) (a : Addr) (m : Mode) (fn : Fn) (first captured : Array Value) : (store a (.func fn first captured) m).run P w = stored P w a (.func fn first captured) m := run_store P w a _ m rfl
theorem least_any (s : Nat) (A : Option Addr) (R : List Nat) (rc : Nat) (B : Option Addr) (ts : List Bm.Tk) (d : Nat) (F : Nat) (v : Nat → Int) (bs bv bk bn bl bu M : Nat) (hok : Ok R ts) (hv : ∀ n, n ≤ 10000 → ∀ w, Calls Try.prog F #[.int .i64 (n : Nat)] w (Gives w (.int .i64 (v n)))) (hF : F = 75 ∨ F = 77) : ∀ (j r : Nat), r + j = R.length → ∀ (al : List Bool) (w : World), al.length = ts.length → Env s A R rc B ts d F v bs bv bk bn bl bu M w →
    Calls Try.prog 93 #[.agg (mkP r al), .pointer (some ⟨bs, 0, none⟩), .pointer (some ⟨bv, 0, none⟩), .pointer (some ⟨bk, 0, none⟩), .pointer (some ⟨bu, 0, none⟩)] w (GivesM w M (goodP ts.length R.length (leastP R ts v)) (.int .i64 (leastP R ts v r al)))
  | 0, r, hj, al, w, hal, hE => least_end s A R rc B ts d F v bs bv bk bn bl bu M hok hv hF r (by omega) al w hE
  | j + 1, r, hj, al, w, hal, hE => least_mid s A R rc B ts d F v bs bv bk bn bl bu M hok r (by omega) al w hal hE (fun w hE => values_of s A R rc B ts d F v bs bv bk bn bl bu M hok hv r (by omega) (fun al w hl hE => least_any s A R rc B ts d F v bs bv bk bn bl bu M hok hv hF j (r + 1) (by omega) al w hl hE) al w hal hE)
theorem values_any (s : Nat) (A : Option Addr) (R : List Nat) (rc : Nat) (B : Option Addr) (ts : List Bm.Tk) (d : Nat) (F : Nat) (v : Nat → Int) (bs bv bk bn bl bu M : Nat) (hok : Ok R ts) (hv : ∀ n, n ≤ 10000 → ∀ w, Calls Try.prog F #[.int .i64 (n : Nat)] w (Gives w (.int .i64 (v n)))) (hF : F = 75 ∨ F = 77) (r : Nat) (hr : r < R.length) (al : List Bool) (w : World) (hal : al.length = ts.length) (hE : Env s A R rc B ts d F v bs bv bk bn bl bu M w) :
    Calls Try.prog 92 #[.agg (mkP r al), .pointer (some ⟨bs, 0, none⟩), .pointer (some ⟨bl, 0, none⟩), .pointer (some ⟨bn, 0, none⟩)] w (GivesMI w M (goodP ts.length R.length (leastP R ts v)) (valuesP R ts v r al)) :=
  values_of s A R rc B ts d F v bs bv bk bn bl bu M hok hv r hr (fun al w hl hE => least_any s A R rc B ts d F v bs bv bk bn bl bu M hok hv hF (R.length - (r + 1)) (r + 1) (by omega) al w hl hE) al w hal hE
@[go_sem] theorem mkP_foldG (r : Nat) (al : List Bool) : (#[(mkP r al)[0]'(by rw [mkP_size]; omega), (mkP r al)[1]'(by rw [mkP_size]; omega), (mkP r al)[2]'(by rw [mkP_size]; omega), (mkP r al)[3]'(by rw [mkP_size]; omega), (mkP r al)[4]'(by rw [mkP_size]; omega), (mkP r al)[5]'(by rw [mkP_size]; omega), (mkP r al)[6]'(by rw [mkP_size]; omega), (mkP r al)[7]'(by rw [mkP_size]; omega), (mkP r al)[8]'(by rw [mkP_size]; omega), (mkP r al)[9]'(by rw [mkP_size]; omega), (mkP r al)[10]'(by rw [mkP_size]; omega)] : Array Value) = mkP r al := by
  apply Array.ext'
  simp [mkP, List.range, List.range.loop]
/-- a slice's length -/
def slN (v : Value) : Nat := match v with | .slice _ n _ => n | _ => 0
/-- a row is not a block of another type -/
theorem own_blk {w : World} {B : Nat} {e t : TypeId} {sz n g : Nat} {v : Value} {xs : List Value} {cs : Array Value} (h : w.ownsRow B e sz v n xs) (hg : w.heap[g]? = some (.cells cs t (0, 0))) (he : v.ownBlock = some g) (hne : e ≠ t := by decide) : False := by
  rcases h.2 with ⟨rfl, _⟩ | ⟨g', cap, cur, rfl, _, hh, _⟩
  · simp [Value.ownBlock] at he
  · have : g' = g := by simpa [Value.ownBlock] using he
    subst this
    rw [hg] at hh
    injection hh with hh
    injection hh with _ ht
    exact hne ht.symm
theorem grown_set (w : World) (b : Nat) (cs : Array Value) : w.grownBy (w.setRow b cs) (some b) :=
  ⟨setRow_os _ _ _, setRow_tape _ _ _, setRow_output _ _ _, by rw [setRow_size]; omega, fun k _ hne => setRow_other _ _ _ _ (fun e => hne (by rw [e]))⟩
theorem grown_setRow {w w' : World} {M b : Nat} (h : w.grownBy w' (some M)) (hb : w.heap.size ≤ b) (cs : Array Value) : w.grownBy (w'.setRow b cs) (some M) :=
  grown_own h (grown_set w' b cs) (fun r hr => by injection hr with hr; omega)
theorem own_set {w : World} {B : Nat} {e : TypeId} {sz n g : Nat} {v : Value} {xs : List Value} (h : w.ownsRow B e sz v n xs) {old : Array Value} {t : TypeId} (_ : w.heap[g]? = some (.cells old t (0, 0))) (hne : v.ownBlock = some g → False) (cs : Array Value) : (w.setRow g cs).ownsRow B e sz v n xs := by
  refine ⟨h.1, ?_⟩
  rcases h.2 with h2 | ⟨g', cap, cur, hv, hB, hh, hr⟩
  · exact .inl h2
  · have : g' ≠ g := fun e => hne (by rw [hv, e]; rfl)
    exact .inr ⟨g', cap, cur, hv, hB, (setRow_other _ _ _ _ this).trans hh, hr⟩
theorem heap_chain (l : List Obj) (w : World) : (l.foldl World.alloc w).heap.size = w.heap.size + l.length ∧ (∀ i, i < l.length → (l.foldl World.alloc w).heap[w.heap.size + i]? = l[i]?) ∧ Below w.heap.size w (l.foldl World.alloc w) := by
  induction l generalizing w with
  | nil => exact ⟨rfl, fun i h => by simp at h, Below.refl _ _⟩
  | cons o l ih =>
    obtain ⟨h1, h2, h3⟩ := ih (w.alloc o)
    rw [World.size_alloc] at h1 h2
    refine ⟨by rw [List.foldl_cons, h1, List.length_cons]; omega, fun i hi => ?_, ?_⟩
    · cases i with
      | zero =>
        rw [List.foldl_cons, Nat.add_zero]
        exact (h3.block _ (by simp)).trans (heap_alloc_new w o)
      | succ i =>
        have := h2 i (by simpa using hi)
        rw [List.foldl_cons, show w.heap.size + (i + 1) = w.heap.size + 1 + i by omega]
        simpa using this
    · exact (below_alloc (Below.refl _ _) (Nat.le_refl _) o).trans (h3.mono (by simp))
/-- the world that a search begins in -/
theorem env_new (s : Nat) (A : Option Addr) (R : List Nat) (rc : Nat) (B : Option Addr) (ts : List Bm.Tk) (d : Nat) (F : Nat) (v : Nat → Int) (w : World) (hS : SheetAt w s A (zs R) rc B (tz ts) d) :
    Env s A R rc B ts d F v (w.heap.size) (w.heap.size + 1) (w.heap.size + 1 + 1 + 1) (w.heap.size + 1 + 1 + 1 + 1) (w.heap.size + 1 + 1 + 1 + 1 + 1) (w.heap.size + 1 + 1 + 1 + 1 + 1 + 1) (w.heap.size + 1 + 1) (((((((w.alloc (.cells #[.pointer (some ⟨s, 0, none⟩)] 80)).alloc (.cells #[.func (.func F) #[] #[]] 95)).alloc (.map #[] 0)).alloc (.cells #[.map (some (w.heap.size + 1 + 1))] 114)).alloc (.cells #[.func (.func 91) #[.pointer (some ⟨s, 0, none⟩)] #[]] 115)).alloc (.cells #[.func (.func 93) #[] #[.pointer (some ⟨w.heap.size, 0, none⟩), .pointer (some ⟨w.heap.size + 1, 0, none⟩), .pointer (some ⟨w.heap.size + 1 + 1 + 1, 0, none⟩), .pointer (some ⟨w.heap.size + 1 + 1 + 1 + 1 + 1 + 1, 0, none⟩)]] 116)).alloc (.cells #[.func (.func 92) #[] #[.pointer (some ⟨w.heap.size, 0, none⟩), .pointer (some ⟨w.heap.size + 1 + 1 + 1 + 1 + 1, 0, none⟩), .pointer (some ⟨w.heap.size + 1 + 1 + 1 + 1, 0, none⟩)]] 117)) ∧ Below w.heap.size w (((((((w.alloc (.cells #[.pointer (some ⟨s, 0, none⟩)] 80)).alloc (.cells #[.func (.func F) #[] #[]] 95)).alloc (.map #[] 0)).alloc (.cells #[.map (some (w.heap.size + 1 + 1))] 114)).alloc (.cells #[.func (.func 91) #[.pointer (some ⟨s, 0, none⟩)] #[]] 115)).alloc (.cells #[.func (.func 93) #[] #[.pointer (some ⟨w.heap.size, 0, none⟩), .pointer (some ⟨w.heap.size + 1, 0, none⟩), .pointer (some ⟨w.heap.size + 1 + 1 + 1, 0, none⟩), .pointer (some ⟨w.heap.size + 1 + 1 + 1 + 1 + 1 + 1, 0, none⟩)]] 116)).alloc (.cells #[.func (.func 92) #[] #[.pointer (some ⟨w.heap.size, 0, none⟩), .pointer (some ⟨w.heap.size + 1 + 1 + 1 + 1 + 1, 0, none⟩), .pointer (some ⟨w.heap.size + 1 + 1 + 1 + 1, 0, none⟩)]] 117)) ∧ (((((((w.alloc (.cells #[.pointer (some ⟨s, 0, none⟩)] 80)).alloc (.cells #[.func (.func F) #[] #[]] 95)).alloc (.map #[] 0)).alloc (.cells #[.map (some (w.heap.size + 1 + 1))] 114)).alloc (.cells #[.func (.func 91) #[.pointer (some ⟨s, 0, none⟩)] #[]] 115)).alloc (.cells #[.func (.func 93) #[] #[.pointer (some ⟨w.heap.size, 0, none⟩), .pointer (some ⟨w.heap.size + 1, 0, none⟩), .pointer (some ⟨w.heap.size + 1 + 1 + 1, 0, none⟩), .pointer (some ⟨w.heap.size + 1 + 1 + 1 + 1 + 1 + 1, 0, none⟩)]] 116)).alloc (.cells #[.func (.func 92) #[] #[.pointer (some ⟨w.heap.size, 0, none⟩), .pointer (some ⟨w.heap.size + 1 + 1 + 1 + 1 + 1, 0, none⟩), .pointer (some ⟨w.heap.size + 1 + 1 + 1 + 1, 0, none⟩)]] 117)).heap.size = w.heap.size + 7 := by
  obtain ⟨h1, h2, h3⟩ := heap_chain [(.cells #[.pointer (some ⟨s, 0, none⟩)] 80), (.cells #[.func (.func F) #[] #[]] 95), (.map #[] 0), (.cells #[.map (some (w.heap.size + 1 + 1))] 114), (.cells #[.func (.func 91) #[.pointer (some ⟨s, 0, none⟩)] #[]] 115), (.cells #[.func (.func 93) #[] #[.pointer (some ⟨w.heap.size, 0, none⟩), .pointer (some ⟨w.heap.size + 1, 0, none⟩), .pointer (some ⟨w.heap.size + 1 + 1 + 1, 0, none⟩), .pointer (some ⟨w.heap.size + 1 + 1 + 1 + 1 + 1 + 1, 0, none⟩)]] 116), (.cells #[.func (.func 92) #[] #[.pointer (some ⟨w.heap.size, 0, none⟩), .pointer (some ⟨w.heap.size + 1 + 1 + 1 + 1 + 1, 0, none⟩), .pointer (some ⟨w.heap.size + 1 + 1 + 1 + 1, 0, none⟩)]] 117)] w
  have hb2 : Below (w.heap.size + 1 + 1 + 1) ((w.alloc (.cells #[.pointer (some ⟨s, 0, none⟩)] 80)).alloc (.cells #[.func (.func F) #[] #[]] 95) |>.alloc (.map #[] 0)) (((((((w.alloc (.cells #[.pointer (some ⟨s, 0, none⟩)] 80)).alloc (.cells #[.func (.func F) #[] #[]] 95)).alloc (.map #[] 0)).alloc (.cells #[.map (some (w.heap.size + 1 + 1))] 114)).alloc (.cells #[.func (.func 91) #[.pointer (some ⟨s, 0, none⟩)] #[]] 115)).alloc (.cells #[.func (.func 93) #[] #[.pointer (some ⟨w.heap.size, 0, none⟩), .pointer (some ⟨w.heap.size + 1, 0, none⟩), .pointer (some ⟨w.heap.size + 1 + 1 + 1, 0, none⟩), .pointer (some ⟨w.heap.size + 1 + 1 + 1 + 1 + 1 + 1, 0, none⟩)]] 116)).alloc (.cells #[.func (.func 92) #[] #[.pointer (some ⟨w.heap.size, 0, none⟩), .pointer (some ⟨w.heap.size + 1 + 1 + 1 + 1 + 1, 0, none⟩), .pointer (some ⟨w.heap.size + 1 + 1 + 1 + 1, 0, none⟩)]] 117)) := by
    have := (heap_chain [(.cells #[.map (some (w.heap.size + 1 + 1))] 114), (.cells #[.func (.func 91) #[.pointer (some ⟨s, 0, none⟩)] #[]] 115), (.cells #[.func (.func 93) #[] #[.pointer (some ⟨w.heap.size, 0, none⟩), .pointer (some ⟨w.heap.size + 1, 0, none⟩), .pointer (some ⟨w.heap.size + 1 + 1 + 1, 0, none⟩), .pointer (some ⟨w.heap.size + 1 + 1 + 1 + 1 + 1 + 1, 0, none⟩)]] 116), (.cells #[.func (.func 92) #[] #[.pointer (some ⟨w.heap.size, 0, none⟩), .pointer (some ⟨w.heap.size + 1 + 1 + 1 + 1 + 1, 0, none⟩), .pointer (some ⟨w.heap.size + 1 + 1 + 1 + 1, 0, none⟩)]] 117)] ((w.alloc (.cells #[.pointer (some ⟨s, 0, none⟩)] 80)).alloc (.cells #[.func (.func F) #[] #[]] 95) |>.alloc (.map #[] 0))).2.2
    exact this.mono (by simp)
  have hkm := KMap.made ((w.alloc (.cells #[.pointer (some ⟨s, 0, none⟩)] 80)).alloc (.cells #[.func (.func F) #[] #[]] 95)) 110 (goodP ts.length R.length (leastP R ts v))
  rw [show ((w.alloc (.cells #[.pointer (some ⟨s, 0, none⟩)] 80)).alloc (.cells #[.func (.func F) #[] #[]] 95)).heap.size = w.heap.size + 1 + 1 by simp] at hkm
  refine ⟨⟨hS.ext h3, obj_at (h2 0 (by simp)) 0 _ rfl, obj_at (h2 1 (by simp)) 0 _ rfl, obj_at (h2 3 (by simp)) 0 _ rfl, obj_at (h2 4 (by simp)) 0 _ rfl, obj_at (h2 5 (by simp)) 0 _ rfl, obj_at (h2 6 (by simp)) 0 _ rfl, hkm.below (hb2.mono (by simp))⟩, h3, h1⟩
set_option maxRecDepth 100000 in
set_option maxHeartbeats 4000000 in
theorem first_any (s : Nat) (A : Option Addr) (R : List Nat) (rc : Nat) (B : Option Addr) (ts : List Bm.Tk) (d : Nat) (F : Nat) (v : Nat → Int) (hok : Ok R ts) (hv : ∀ n, n ≤ 10000 → ∀ w, Calls Try.prog F #[.int .i64 (n : Nat)] w (Gives w (.int .i64 (v n)))) (hF : F = 75 ∨ F = 77) (w : World) (hS : SheetAt w s A (zs R) rc B (tz ts) d) :
    Calls Try.prog 74 #[.pointer (some ⟨s, 0, none⟩), .func (.func F) #[] #[]] w (GivesI w (zs (Bm.firstC (fun al => v (Bm.vals ts al)) (Bm.cols R ts 0) (Bm.alls ts)))) := by
  have HST := hide (fun w' (h : SheetAt w' s A (zs R) rc B (tz ts) d) => start_any s A R rc B ts d w' h hok.h5 hok.r6 hok.t10)
  have rl := hS.2.2.1
  have HS := hide hS
  clear hS
  have hmm := @run_makeMap Try.prog
  obtain ⟨i0, ih, iz, is, ib⟩ := info_parts info3
  go_enter Try.func74, Try.ntmps74
  go_wp2_with fail
  obtain ⟨hE, hbW, hz7⟩ := env_new s A R rc B ts d F v w HS.out
  obtain ⟨W7, hW7⟩ : ∃ W7, (((((((w.alloc (.cells #[.pointer (some ⟨s, 0, none⟩)] 80)).alloc (.cells #[.func (.func F) #[] #[]] 95)).alloc (.map #[] 0)).alloc (.cells #[.map (some (w.heap.size + 1 + 1))] 114)).alloc (.cells #[.func (.func 91) #[.pointer (some ⟨s, 0, none⟩)] #[]] 115)).alloc (.cells #[.func (.func 93) #[] #[.pointer (some ⟨w.heap.size, 0, none⟩), .pointer (some ⟨w.heap.size + 1, 0, none⟩), .pointer (some ⟨w.heap.size + 1 + 1 + 1, 0, none⟩), .pointer (some ⟨w.heap.size + 1 + 1 + 1 + 1 + 1 + 1, 0, none⟩)]] 116)).alloc (.cells #[.func (.func 92) #[] #[.pointer (some ⟨w.heap.size, 0, none⟩), .pointer (some ⟨w.heap.size + 1 + 1 + 1 + 1 + 1, 0, none⟩), .pointer (some ⟨w.heap.size + 1 + 1 + 1 + 1, 0, none⟩)]] 117)) = W7 := ⟨_, rfl⟩
  rw [hW7] at hE hbW hz7 ⊢
  clear hW7
  have hr5 := hok.h5
  have HVAL := hide (fun (r : Nat) (al : List Bool) (w' : World) (hr : r < R.length) (hal : al.length = ts.length) h => values_any s A R rc B ts d F v (w.heap.size) (w.heap.size + 1) (w.heap.size + 1 + 1 + 1) (w.heap.size + 1 + 1 + 1 + 1) (w.heap.size + 1 + 1 + 1 + 1 + 1) (w.heap.size + 1 + 1 + 1 + 1 + 1 + 1) (w.heap.size + 1 + 1) hok hv hF r hr al w' hal h)
  have HNX := hide (fun (r : Nat) (al : List Bool) (i : Nat) (w' : World) (hr : r < R.length) (hal : al.length = ts.length) (hi : i < 6) (h : SheetAt w' s A (zs R) rc B (tz ts) d) => next_any s A R rc B ts d w' h hok.h5 hok.r6 hok.t10 r al i hr hal hi hok.htl hok.ht6)
  have hst := fun W : World => run_storeCells_new (P := Try.prog) W 110 #[.int .i64 0, .int .i64 0, .int .i64 0, .int .i64 0, .int .i64 0, .int .i64 0, .int .i64 0, .int .i64 0, .int .i64 0, .int .i64 0, .int .i64 0] (mkP 0 (Bm.alls ts)) (by rw [mkP_size]; exact siz110) (by simp [mkP_size]) (mkP_one _ _)
  have hmz : (mkP 0 (Bm.alls ts)).size = 11 := mkP_size _ _
  have HM7 := hide hE
  have hMl := hE.km.lt
  have hRl : (R.length : Int) ≤ 5 := by omega
  have HAL0 := hide (show (Bm.alls ts).length = ts.length by simp [Bm.alls])
  clear hv hF HS
  go_wp2_with (go_at_call 90; refine (HST.out _ HM7.out.sh).mono ?_; rintro e w1 ⟨rfl, hb1⟩; replace hb1 := ex_below hb1; have hz1 := hb1.size)
  clear hst hmz
  have hP0 : (w1.alloc (.cells (mkP 0 (Bm.alls ts)) 110)).heap[w1.heap.size]? = some (.cells (mkP 0 (Bm.alls ts)) 110 (0, 0)) := heap_alloc_new w1 _
  have hbA : Below W7.heap.size W7 (w1.alloc (.cells (mkP 0 (Bm.alls ts)) 110)) := below_alloc hb1 hz1 _
  have hgA := grown_none (row := some (w.heap.size + 1 + 1)) (below_grown hbA)
  have hmA := HM7.out.km.below hbA
  go_loopw [9, 10, 11] (fun t9 t10 _ wr => ∃ (r b10 : Nat) (al : List Bool) (pre : List Nat) (O : Option Addr) (c : Nat), r ≤ R.length ∧ al.length = ts.length ∧ t10 = .pointer (some ⟨b10, 0, none⟩) ∧ t9 = .slice O r c ∧ pre.length = r ∧ Bm.firstC (fun al => v (Bm.vals ts al)) (Bm.cols R ts 0) (Bm.alls ts) = pre ++ Bm.firstC (fun al => v (Bm.vals ts al)) (Bm.cols R ts r) al ∧ W7.grownBy wr (some (w.heap.size + 1 + 1)) ∧ KMap 110 (w.heap.size + 1 + 1) (goodP ts.length R.length (leastP R ts v)) wr ∧ wr.heap[b10]? = some (.cells (mkP r al) 110 (0, 0)) ∧ W7.heap.size ≤ b10 ∧ wr.ownsRow W7.heap.size 3 1 (.slice O r c) r ((zs pre).map (Value.int .i64))) (fun t9 _ _ _ => R.length - slN t9)
  case atStart => exact ⟨0, w1.heap.size, Bm.alls ts, [], none, 0, Nat.zero_le _, HAL0.out, rfl, rfl, rfl, rfl, hgA, hmA, hP0, hz1, World.ownsRow_nil _ _ _ _⟩
  case round =>
    obtain ⟨r, b10, al, pre, O, c, hr, hal, rfl, rfl, hpl, hfc, hg, hm, hP, hb10, hown⟩ := hrel
    have hkp := keeps_M HM7.out.km hg
    have hEr := hide (HM7.out.cells hkp hm)
    have hzr := hkp.1
    obtain ⟨qsh, qs, qv, qk, qn, ql, qu, _⟩ := hEr.out
    obtain ⟨q0, q1, qlt, _, _⟩ := qsh
    rw [zs_len] at q0
    have hce : ∀ o, wr.cell? ⟨b10, o, none⟩ = (mkP r al)[o]? := fun o => cell_of_row _ _ _ _ _ _ hP
    have hlP := obj_lt hP
    have lw6 : w.heap.size + 1 + 1 + 1 + 1 + 1 + 1 < wr.heap.size := by omega
    have lw4 : w.heap.size + 1 + 1 + 1 + 1 < wr.heap.size := by omega
    have lw3 : w.heap.size + 1 + 1 + 1 < wr.heap.size := by omega
    have lw0 : w.heap.size < wr.heap.size := by omega
    have HG := hide hg
    have HM := hide hm
    have HPL := hide hpl
    have HAL := hide hal
    have HFC := hide hfc
    have hge := own_ge hown
    clear hg hm hpl hal hfc hkp qv ql
    by_cases hlt : r < R.length
    · have hltb : decide ((r : Int) < (R.length : Int)) = true := by simp; omega
      have HVR := hide (fun w' h => HVAL.out r al w' hlt HAL.out h)
      have hn1 : 1 ≤ R[r] := hok.r1 _ (List.getElem_mem hlt)
      have hn6 : R[r] ≤ 6 := hok.r6 _ (List.getElem_mem hlt)
      have hvl : (valuesP R ts v r al).length = R[r] := by unfold valuesP; rw [List.length_map, List.length_range, getD_at _ _ hlt]
      have HBB := hide ((Bm.best_spec (valuesP R ts v r al) (valuesP R ts v r al).length (by omega)).1)
      have hvl6 : (valuesP R ts v r al).length ≤ 6 := by omega
      have HFS := hide (show Bm.firstC (fun al => v (Bm.vals ts al)) (Bm.cols R ts r) al = Bm.bestP (valuesP R ts v r al) (valuesP R ts v r al).length :: Bm.firstC (fun al => v (Bm.vals ts al)) (Bm.cols R ts (r + 1)) (Bm.nx (Bm.colN ts r) al (Bm.bestP (valuesP R ts v r al) (valuesP R ts v r al).length)) by
        rw [Bm.cols_cons hlt, hvl, show R[r] = R.getD r 0 from (getD_at _ _ hlt _).symm]; rfl)
      have hq6 : Bm.bestP (valuesP R ts v r al) (valuesP R ts v r al).length < 6 := by have := HBB.out; omega
      have HFL := hide (Bm.nx_len (c := Bm.colN ts r) (al := al) (by simp [Bm.colN, HAL.out]) (Bm.bestP (valuesP R ts v r al) (valuesP R ts v r al).length))
      have HNR := hide (fun w' h => HNX.out r al (Bm.bestP (valuesP R ts v r al) (valuesP R ts v r al).length) w' hlt HAL.out hq6 h)
      rw [show colN ts r = Bm.colN ts r from rfl] at HNR
      generalize valuesP R ts v r al = vl at *
      clear hvl
      go_wp2
      refine wp_region_grow (by kernel_rfl) (by kernel_rfl) ?_
      repeat (go_big_quiet_step (fail))
      refine wpQuiet_nil ?_
      intro w2 hb2
      replace hb2 := ex_below hb2
      have hz2 := hb2.size
      (try simp only [zz] at hz2)
      have hlt2 : ∀ b, b < wr.heap.size → b < w2.heap.size := fun b hb => (by (first | omega | (simp only [zz] at *; omega)))
      have hc2 : ∀ b o, b < wr.heap.size → w2.cell? ⟨b, o, none⟩ = wr.cell? ⟨b, o, none⟩ := old_cell (by (repeat (first | exact Below.refl _ _ | assumption | refine below_drewN ?_ _ | refine below_drew ?_ | refine below_gr ?_ ?_ _ | refine below_alloc ?_ ?_ _ | refine Below.setCell ?_ ?_ _ | refine below_step ?_ (by assumption) ?_ | omega | (simp only [zz] at *; omega))))
      have hb2r : Below wr.heap.size wr w2 := by (repeat (first | exact Below.refl _ _ | assumption | (refine below_gr ?_ (by (first | omega | (simp only [zz] at *; omega))) _) | (refine below_alloc ?_ (by (first | omega | (simp only [zz] at *; omega))) _) | (refine Below.setCell ?_ (by (first | omega | (simp only [zz] at *; omega))) _) | refine below_drewN ?_ _ | refine below_drew ?_ | (refine below_step ?_ (by assumption) (by (first | omega | (simp only [zz] at *; omega))))))
      have E2 := hide (hEr.out.below hb2r)
      have P2 := (hb2r.block _ hlP).trans hP
      have own2 := own_keeps hown (keeps_below hb2r).2
      have hce2 : ∀ o, w2.cell? ⟨b10, o, none⟩ = (mkP r al)[o]? := fun o => cell_of_row _ _ _ _ _ _ P2
      have ql2 := E2.out.cu
      have hlP2 := obj_lt P2
      clear hc2 hb2 hce
      go_wp2_with (first
        | (go_at_call 92; refine (HVR.out _ E2.out).mono ?_; rintro e w3 ⟨Q, qc, rfl, hg3, hm3, hQ3⟩; have k3 := keeps_M E2.out.km hg3; have E3 := hide (E2.out.cells k3 hm3); have P3 := k3.2 _ _ P2 rfl; have own3 := own_keeps own2 k3.2; have HQ := hide hQ3; have G3 := hide hg3; have z3 := k3.1; clear k3 hm3 hQ3 hg3)
        | (go_at_call 95; refine (best_any Q vl qc _ HQ.out (by omega)).mono ?_; rintro e w4 ⟨rfl, hb4⟩; replace hb4 := ex_below hb4; have hz4 := hb4.size; have E4 := hide (E3.out.below hb4); have P4 := (hb4.block _ (obj_lt P3)).trans P3; have own4 := own_keeps own3 (keeps_below hb4).2)
        | (at_builtin; refine wpList_append_own _ rfl (.tmp 32) (.tmp 34) 22 rfl W7.heap.size 3 i0 _ 1 8 und22 ih iz is ib rfl (by decide) _ r _ rfl (own4.alloc _) ⟨w4.heap.size, 0, none⟩ 1 1 [.int .i64 (Bm.bestP vl vl.length : Nat)] rfl rfl ?c1 (by simp [Value.oneCell']) (by unfold maxLen; omega) (by omega) (by simp; omega) ?_))
      case c1 => exact cells_new w4 [.int .i64 (Bm.bestP vl vl.length : Nat)] _ _ (by simp)
      intro v' w5 own5 hgr' _
      obtain ⟨A2, c2, rfl⟩ := own_form own5
      have hb4a : Below w4.heap.size w4 (w4.alloc (.cells #[.int .i64 (Bm.bestP vl vl.length : Nat)] 3)) := below_alloc (Below.refl _ _) (Nat.le_refl _) _
      have hg45 : w4.grownBy w5 (Value.slice O r c).ownBlock := grown_trans (grown_none (below_grown hb4a)) hgr'
      have z5 := hg45.size
      have P5 := (hg45.block _ (obj_lt P4) (fun e => own_blk own4 P4 e.symm)).trans P4
      have hm5 := E4.out.km.kept hg45 (fun e => by have := hge _ e.symm; omega)
      have g4 : W7.grownBy w4 (some (w.heap.size + 1 + 1)) := grown_trans HG.out (grown_trans (grown_none (below_grown hb2r)) (grown_trans G3.out (grown_none (below_grown (by assumption : Below w3.heap.size w3 w4)))))
      have g5 := grown_own g4 hg45 (fun rr h => hge rr h)
      have E5 := hide (HM7.out.cells (keeps_M HM7.out.km g5) hm5)
      obtain ⟨kl, hkl⟩ := keyP r al (by omega)
      obtain ⟨w6, hdel, hm6, hg6⟩ := hm5.del law110 und114 0 hkl
      have g6 := grown_trans g5 hg6
      have E6 := hide (HM7.out.cells (keeps_M HM7.out.km g6) hm6)
      have P6 := (hg6.block _ (obj_lt P5) (by simp; omega)).trans P5
      have own6 := own_keeps own5 (keeps_M hm5 hg6).2
      have ck5 := E5.out.ck
      have cn6 := E6.out.cn
      have hce5 : ∀ o, w5.cell? ⟨b10, o, none⟩ = (mkP r al)[o]? := fun o => cell_of_row _ _ _ _ _ _ P5
      have hce6 : ∀ o, w6.cell? ⟨b10, o, none⟩ = (mkP r al)[o]? := fun o => cell_of_row _ _ _ _ _ _ P6
      have hlP6 := obj_lt P6
      have z6 := hg6.size
      have G6 := hide g6
      have M6 := hide hm6
      have HG45 := hide hg45
      have HM5 := hide hm5
      clear hgr' hb4a hg6 hm6 hkl hg45 hm5 g4 g5 g6
      generalize Bm.nx (Bm.colN ts r) al (Bm.bestP vl vl.length) = f at *
      have hst := fun W : World => run_storeCells_new (P := Try.prog) W 110 #[.int .i64 0, .int .i64 0, .int .i64 0, .int .i64 0, .int .i64 0, .int .i64 0, .int .i64 0, .int .i64 0, .int .i64 0, .int .i64 0, .int .i64 0] (mkP (r + 1) f) (by rw [mkP_size]; exact siz110) (by simp [mkP_size]) (mkP_one _ _)
      have hmz : (mkP (r + 1) f).size = 11 := mkP_size _ _
      obtain ⟨fs, hu110⟩ := und110
      go_wp2_with (first
        | (go_at_call 91; refine (HNR.out _ E6.out.sh).mono ?_; rintro e w7 ⟨rfl, hb7⟩; replace hb7 := ex_below hb7; have hz7' := hb7.size; have P7 := (hb7.block _ hlP6).trans P6; have P8 := setRow_same' (cs := mkP (r + 1) f) P7; have hce8 : (∀ o, (w7.setRow b10 (mkP (r + 1) f)).cell? ⟨b10, o, none⟩ = (mkP (r + 1) f)[o]?) := (fun o => cell_of_row _ _ _ _ _ _ P8); have hst8 := hst (w7.setRow b10 (mkP (r + 1) f)); rw [setRow_size] at hst8)
        | (refine wpList_store_row rfl 110 (.tmp 10) (.tmp 41) rfl b10 _ rfl rfl 110 _ P7 (by rw [mkP_size]; exact siz110) (by rw [mkP_size, mkP_size]) (mkP_one _ _) ?_))
      have hzs : (w7.setRow b10 (mkP (r + 1) f)).heap.size = w7.heap.size := setRow_size _ _ _
      have hb7b : b10 < w7.heap.size := by have := hlP6; have := hb7.size; omega
      have hg7 : W7.grownBy w7 (some (w.heap.size + 1 + 1)) := grown_trans G6.out (grown_none (below_grown hb7))
      have hg8 : W7.grownBy (w7.setRow b10 (mkP (r + 1) f)) (some (w.heap.size + 1 + 1)) := grown_setRow hg7 hb10 _
      have hg9 := grown_trans hg8 (grown_none (row := some (w.heap.size + 1 + 1)) (below_grown (below_alloc (Below.refl _ _) (Nat.le_refl _) (.cells (mkP (r + 1) f) 110))))
      refine ⟨⟨r + 1, w7.heap.size, f, pre ++ [Bm.bestP vl vl.length], A2, c2, by omega, HFL.out.trans HAL.out, rfl, rfl, by simp [HPL.out], by rw [HFC.out, HFS.out]; simp, hg9, ?_, ?_, ?_, ?_⟩, by simp only [slN]; omega⟩
      · exact ((M6.out.below hb7).kept (grown_set w7 b10 _) (by simp; omega)).below (below_alloc (Below.refl _ _) (Nat.le_refl _) _)
      · rw [← hzs]; exact heap_alloc_new _ _
      · exact hg7.size
      · have hbl : Below (w7.setRow b10 (mkP (r + 1) f)).heap.size (w7.setRow b10 (mkP (r + 1) f)) ((w7.setRow b10 (mkP (r + 1) f)).alloc (.cells (mkP (r + 1) f) 110)) := below_alloc (Below.refl _ _) (Nat.le_refl _) _
        have o7 := own_keeps (own_set (own_keeps own6 (keeps_below hb7).2) P7 (fun e => own_blk (own_keeps own6 (keeps_below hb7).2) P7 e) (mkP (r + 1) f)) (keeps_below hbl).2
        rw [show zs (pre ++ [Bm.bestP vl vl.length]) = zs pre ++ [((Bm.bestP vl vl.length : Nat) : Int)] by simp [zs], List.map_append]
        simpa [hz7] using o7
    · have hrR : r = R.length := by omega
      subst hrR
      have hltb : decide ((R.length : Int) < (R.length : Int)) = false := by simp
      go_wp2
      refine wp_region_grow (by kernel_rfl) (by kernel_rfl) ?_
      repeat (go_big_quiet_step (fail))
      refine wpQuiet_nil ?_
      intro w2 hb2
      replace hb2 := ex_below hb2
      have hz2 := hb2.size
      (try simp only [zz] at hz2)
      have hlt2 : ∀ b, b < wr.heap.size → b < w2.heap.size := fun b hb => (by (first | omega | (simp only [zz] at *; omega)))
      have hc2 : ∀ b o, b < wr.heap.size → w2.cell? ⟨b, o, none⟩ = wr.cell? ⟨b, o, none⟩ := old_cell (by (repeat (first | exact Below.refl _ _ | assumption | refine below_drewN ?_ _ | refine below_drew ?_ | refine below_gr ?_ ?_ _ | refine below_alloc ?_ ?_ _ | refine Below.setCell ?_ ?_ _ | refine below_step ?_ (by assumption) ?_ | omega | (simp only [zz] at *; omega))))
      have hI := own_i64 (xs := zs pre) (c := c) (by rw [zs_len, HPL.out]; exact hown)
      have HI := hide hI
      have HB := hide (gb_below hbW HG.out (by omega) (fun k e => by injection e with e; omega))
      have HB2 := hide (Below.trans HB.out (hb2.mono (by omega)))
      clear hI hown
      go_wp2
      go_ret
      have hI2 := HI.out.1.ext hb2
      have e1 : Bm.firstC (fun al => v (Bm.vals ts al)) (Bm.cols R ts 0) (Bm.alls ts) = pre := by
        rw [HFC.out, Bm.cols_nil (Nat.le_refl _)]; simp [Bm.firstC]
      rw [e1]
      exact ⟨O, c, by rw [zs_len, HPL.out]; rfl, below_grow HB2.out, hI2, HI.out.2.1, fun b o e => by have := HI.out.2.2 b o e; omega⟩
end Go.Proofs.Ytlbkaeoagdbemaa

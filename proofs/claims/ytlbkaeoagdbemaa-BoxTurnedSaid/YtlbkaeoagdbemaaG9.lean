/- Proved here: the contracts for valid cards and tickets, a part of the proofs about the box laws. Conditions: those that each theorem names, no others. -/
import Derived.Test.YtlbkaeoagdbemaaG8
import Derived.WalkKit
import Derived.WalkSpells
import Derived.WalkLawsBesides
import Derived.Below
import Derived.Deep.QuietTactic
import Derived.BigQuiet
import Derived.Deep.Light
import Derived.Deep.RegionHeld3
set_option linter.unusedSimpArgs false
set_option linter.unusedVariables false
namespace Go.Proofs.Ytlbkaeoagdbemaa
open Go.RowKit Go.Maps
theorem heap_at {w : World} {cs : Array Value} {t : TypeId} {n : Nat} (h : n = w.heap.size) : (w.alloc (.cells cs t)).heap[n]? = some (.cells cs t (0, 0)) := by subst h; exact heap_alloc_new _ _
theorem fine_ok {R : List Int} {ts : List Tz} (h : fineB R ts = true) : ∃ R' ts', R = zs R' ∧ ts = tz ts' ∧ Ok R' ts' ∧ greatB (zs R') = false ∧ wideB (tz ts') 15 = false := by
  unfold fineB at h
  rw [Bool.and_eq_true, Bool.and_eq_true, Bool.not_eq_true', Bool.not_eq_true', beq_iff_eq] at h
  obtain ⟨h1, h2, h3⟩ := h
  obtain ⟨R', ts', rfl, rfl, hok⟩ := chk_ok h3
  exact ⟨R', ts', rfl, rfl, hok, h1, h2⟩
theorem o_cov (A : Option Addr) (R : List Nat) (c : Nat) (B : Option Addr) (ts : List Bm.Tk) (d : Nat) (w : World) (hA : I64 w A (zs R)) (hB : Tks w B (tz ts)) (hok : Ok R ts) : Calls Try.prog 32 #[.agg #[.slice A R.length c], .slice B ts.length d] w (Gives w (.tuple #[.int .i64 (Bm.afterN R ts [] : Nat), .int .i64 0])) := by
  have h := tCovered A (zs R) c B (tz ts) d w hA hB hok.len.1 hok.len.2.1 hok.len.2.2
  unfold coveredV at h
  rw [if_neg (by rw [ok_chk hok]; simp), nn_zs, nt_tz, zs_len, tz_len] at h
  exact h
theorem o_open (A : Option Addr) (R : List Nat) (c : Nat) (B : Option Addr) (ts : List Bm.Tk) (d : Nat) (w : World) (hA : I64 w A (zs R)) (hB : Tks w B (tz ts)) (hok : Ok R ts) : Calls Try.prog 34 #[.agg #[.slice A R.length c], .slice B ts.length d] w (GivesB w (openVV (zs R) (tz ts)).1 (openVV (zs R) (tz ts)).2) := by
  have h := tOpen A (zs R) c B (tz ts) d w hA hB hok.len.1 hok.len.2.1 hok.len.2.2
  rw [zs_len, tz_len] at h
  exact h
theorem o_deep (A : Option Addr) (R : List Nat) (c : Nat) (B : Option Addr) (ts : List Bm.Tk) (d : Nat) (w : World) (hA : I64 w A (zs R)) (hB : Tks w B (tz ts)) (hok : Ok R ts) : Calls Try.prog 36 #[.agg #[.slice A R.length c], .slice B ts.length d] w (GivesA w (Bm.uni ts (deepO R ts) : Nat) (zs (deepO R ts)) 0) := by
  have h := tDeepest A (zs R) c B (tz ts) d w hA hB hok.len.1 hok.len.2.1 hok.len.2.2
  unfold deepVV at h
  rw [if_neg (by rw [ok_chk hok]; simp), nn_zs, nt_tz, zs_len, tz_len] at h
  exact h
theorem o_idle (A : Option Addr) (R : List Nat) (c : Nat) (B : Option Addr) (ts : List Bm.Tk) (d : Nat) (w : World) (hA : I64 w A (zs R)) (hB : Tks w B (tz ts)) (hok : Ok R ts) : Calls Try.prog 38 #[.agg #[.slice A R.length c], .slice B ts.length d] w (GivesB w (zs (Bm.idleN R ts ts.length)) 0) := by
  have h := tIdle A (zs R) c B (tz ts) d w hA hB hok.len.1 hok.len.2.1 hok.len.2.2
  unfold idleV at h
  rw [if_neg (by rw [ok_chk hok]; simp), nn_zs, nt_tz, zs_len, tz_len] at h
  exact h
theorem deep_mem {R : List Nat} {ts : List Bm.Tk} (hok : Ok R ts) : deepO R ts ∈ Bm.outs R := by
  have := firstO_mem hok deepV
  rw [deep_eq hok (outs_pos hok.r1)] at this
  exact this
theorem deep_most {R : List Nat} {ts : List Bm.Tk} (hok : Ok R ts) {o : List Nat} (ho : o ∈ Bm.outs R) : Bm.uni ts o ≤ Bm.uni ts (deepO R ts) := by
  have h := firstO_is hok deepV
  rw [deep_eq hok (outs_pos hok.r1)] at h
  have h2 : deepV (Bm.uni ts (deepO R ts)) ≤ deepV (Bm.uni ts o) := h.le ho
  unfold deepV at h2
  omega
theorem out_run {R o : List Nat} (ho : o ∈ Bm.outs R) : runB R (zs o) = true := by
  obtain ⟨hl, hx⟩ := (Bm.mem_outs R o).1 ho
  unfold runB
  rw [List.all_eq_true]
  intro p hp
  obtain ⟨k, hk, rfl⟩ := List.getElem_of_mem hp
  have hkR : k < R.length := by simp [zs] at hk; omega
  have hko : k < o.length := by omega
  have := hx k hkR
  rw [getD_at _ _ hko, getD_at _ _ hkR] at this
  simp only [List.getElem_zip, zs_at _ _ hkR, zs_at _ _ hko, decide_eq_true_eq]
  omega
theorem out_iso {R o : List Nat} (ho : o ∈ Bm.outs R) : isoE R (zs o) = 0 := by
  unfold isoE
  rw [if_neg (by rw [zs_len, Bm.outs_len ho]; simp), if_neg (by rw [out_run ho]; simp)]
def payP (n p : Nat) : Nat := if n = 0 then 0 else p / n
def payC (n p : Nat) : Nat := if n = 0 then p else p % n
theorem o_pays (A : Option Addr) (R : List Nat) (c : Nat) (B : Option Addr) (ts : List Bm.Tk) (d : Nat) (w : World) (hA : I64 w A (zs R)) (hB : Tks w B (tz ts)) (hok : Ok R ts) (X : Option Addr) (o : List Nat) (xc : Nat) (hX : I64 w X (zs o)) (ho : o ∈ Bm.outs R) (p : Nat) (hp : p ≤ 1099511627776) : Calls Try.prog 41 #[.agg #[.slice A R.length c], .slice B ts.length d, .int .i64 (p : Nat), .slice X o.length xc] w (Gives w (.tuple #[.int .i64 (payP (Bm.uni ts o) p : Nat), .int .i64 (payC (Bm.uni ts o) p : Nat), .int .i64 0])) := by
  have hol := Bm.outs_len ho
  have h := tPays A (zs R) c B (tz ts) d w hA hB hok.len.1 hok.len.2.1 hok.len.2.2 X (zs o) xc hX (by rw [zs_len, hol]; have := hok.h5; omega) (p : Int)
  unfold paysV payV at h
  rw [if_neg (by rw [ok_chk hok]; simp), nn_zs, nt_tz, zs_len, tz_len, zs_len, if_neg (by omega), if_neg (by simpa using hol), if_neg (by rw [out_run ho]; simp), zs_nat] at h
  unfold payP payC
  by_cases h0 : Bm.uni ts o = 0
  · rw [if_pos h0] at h
    rw [if_pos h0, if_pos h0]
    exact h
  · rw [if_neg h0] at h
    rw [if_neg h0, if_neg h0]
    simpa using h
theorem o_units (A : Option Addr) (R : List Nat) (c : Nat) (B : Option Addr) (ts : List Bm.Tk) (d : Nat) (w : World) (hA : I64 w A (zs R)) (hB : Tks w B (tz ts)) (hok : Ok R ts) (X : Option Addr) (o : List Nat) (xc : Nat) (hX : I64 w X (zs o)) (ho : o ∈ Bm.outs R) : Calls Try.prog 52 #[.slice B ts.length d, .slice X o.length xc] w (Gives w (.int .i64 (Bm.uni ts o : Nat))) :=
  rUnits_any B ts d X o xc w hB hX (fun t ht => ⟨by rw [Bm.outs_len ho, hok.htl t ht]; exact Nat.le_refl _, by rw [hok.htl t ht]; have := hok.h5; omega⟩) hok.ht6 (outs_lt hok.r6 ho) hok.t10 hok.hu
theorem o_iso (A : Option Addr) (R : List Nat) (c : Nat) (B : Option Addr) (ts : List Bm.Tk) (d : Nat) (w : World) (hA : I64 w A (zs R)) (hB : Tks w B (tz ts)) (hok : Ok R ts) (X : Option Addr) (o : List Nat) (xc : Nat) (hX : I64 w X (zs o)) (ho : o ∈ Bm.outs R) : Calls Try.prog 50 #[.agg #[.slice A R.length c], .slice X o.length xc] w (Gives w (.int .i64 0)) := by
  have h := rIsOutcome_any A R c X (zs o) xc w hA hX (by rw [zs_len, Bm.outs_len ho]; have := hok.h5; omega) (by have := hok.h5; omega)
  rwa [zs_len, out_iso ho] at h
theorem outcome_mem {R X : List Nat} (h1 : ∀ n, n ∈ R → 1 ≤ n) (h : R.length ≤ X.length) : outcomeN R X ∈ Bm.outs R := by
  rw [Bm.mem_outs]
  refine ⟨outcomeN_len h, fun r hr => ?_⟩
  rw [getD_at _ _ (by rw [outcomeN_len h]; exact hr), getD_at _ _ hr]
  simp only [outcomeN, List.getElem_zipWith]
  exact Nat.mod_lt _ (h1 _ (List.getElem_mem hr))
end Go.Proofs.Ytlbkaeoagdbemaa

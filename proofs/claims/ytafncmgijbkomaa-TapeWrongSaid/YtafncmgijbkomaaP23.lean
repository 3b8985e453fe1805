/- Proved here: the reference: how many nights go on from each place; the reference: how many nights, a part of the proofs about the tape laws. Conditions: those that each theorem names, no others. -/
import Derived.Test.YtafncmgijbkomaaP21
import Derived.WalkKit
import Derived.WalkSpells
import Derived.WalkLawsBesides
import Derived.Below
import Derived.Deep.QuietTactic
import Derived.BigQuiet
import Derived.Deep.Light
import Derived.Test.YtafncmgijbkomaaP35
import Derived.Test.YtafncmgijbkomaaP09
set_option linter.unusedSimpArgs false
set_option linter.unusedVariables false
namespace Go.Proofs.Ytafncmgijbkomaa
open Go.RowKit Go.Maps Go.Lib
theorem und111 : Try.prog.underlying 111 = some (.slice 2) := by kernel_rfl
theorem und112 : Try.prog.underlying 112 = some (.slice 111) := by kernel_rfl
theorem infoJ : (Try.prog.info? 2).map (fun i => (i.zero, i.size, i.bytes)) = some (some (.int .i64 0), 1, 8) := by kernel_rfl
theorem infoLJ : (Try.prog.info? 111).map (fun i => (i.zero, i.size, i.bytes)) = some (some (.slice none 0 0), 1, 24) := by kernel_rfl
/-- how many nights of a length go on from each place -/
def cV (W : Nat) (ts : List (List Int)) (n k : Nat) : Nat := Tm.cntC W n (Tm.remP ts (Tm.placeP ts k))
def cR (W : Nat) (ts : List (List Int)) (n : Nat) : List Int := (List.range (Tm.prodP ts)).map (fun k => ((cV W ts n k : Nat) : Int))
def cRs (W : Nat) (ts : List (List Int)) (m : Nat) : List (List Int) := (List.range m).map (cR W ts)
theorem cRs_succ (W : Nat) (ts : List (List Int)) (m : Nat) : cRs W ts (m + 1) = cRs W ts m ++ [cR W ts m] := by unfold cRs; rw [List.range_succ, List.map_append]; rfl
theorem cRs_len (W : Nat) (ts : List (List Int)) (m : Nat) : (cRs W ts m).length = m := by simp [cRs]
theorem cR_len (W : Nat) (ts : List (List Int)) (n : Nat) : (cR W ts n).length = Tm.prodP ts := by simp [cR]
theorem cR_at (W : Nat) (ts : List (List Int)) (n k : Nat) (h : k < Tm.prodP ts) : (cR W ts n)[k]? = some ((cV W ts n k : Nat) : Int) := by simp [cR, h]
theorem cV_zero (W : Nat) (ts : List (List Int)) (k : Nat) (h : k < Tm.prodP ts) : cV W ts 0 k = if k = Tm.prodP ts - 1 then 1 else 0 := by
  obtain ⟨hp, hi⟩ := Tm.place_is h
  have hl := Tm.idx_last ts
  have ho := Tm.over_iff hp
  unfold cV Tm.cntC
  by_cases e : k = Tm.prodP ts - 1
  · rw [if_pos e, if_pos]
    refine ho.2 (Tm.idx_inj hp (Tm.last_is ts) ?_)
    omega
  · rw [if_neg e, if_neg]
    intro g
    rw [ho.1 g] at hi
    omega
theorem cR_zero (W : Nat) (ts : List (List Int)) : (List.replicate (Tm.prodP ts) (0 : Int)).set (Tm.prodP ts - 1) 1 = cR W ts 0 := by
  apply List.ext_getElem
  · simp [cR]
  · intro k h1 h2
    have hk : k < Tm.prodP ts := by simpa using h1
    have := cV_zero W ts k hk
    simp only [cR, List.getElem_map, List.getElem_range, this, List.getElem_set, List.getElem_replicate]
    by_cases e : Tm.prodP ts - 1 = k
    · rw [if_pos e, if_pos e.symm]; rfl
    · rw [if_neg e, if_neg (fun g => e g.symm)]; rfl
theorem cV_next (W : Nat) (ts : List (List Int)) (n k : Nat) (h : k < Tm.prodP ts) (x : Int) : cV W ts n (Tm.idxP ts (Tm.nextP ts (Tm.placeP ts k) x) 0) = Tm.cntC W n (Tm.behs x (Tm.remP ts (Tm.placeP ts k))) := by
  unfold cV
  rw [Tm.place_idx (Tm.next_is (Tm.place_is h).1 x), Tm.rem_next]
theorem cV_succ (W : Nat) (ts : List (List Int)) (n k : Nat) : cV W ts (n + 1) k = min (psumC W n (Tm.remP ts (Tm.placeP ts k)) W) 1099511627777 := rfl
theorem rowsA_get {w : World} {A : Option Addr} {rows : List (List Int)} (h : RowsA w A rows) {k : Nat} {q : List Int} (hk : rows[k]? = some q) {M : Nat} (hM : q.length = M) : ∃ b off, A = some ⟨b, off, none⟩ ∧ b < w.heap.size ∧ ∃ P d, w.cell? ⟨b, off + k, none⟩ = some (.slice P M d) ∧ I64 w P q := by
  obtain ⟨b, off, e, h1, _, P, d, h2, h3⟩ := h k q hk
  rw [hM] at h2
  exact ⟨b, off, e, h1, P, d, h2, h3⟩
theorem RowsV.snocM {w : World} {v : Value} {vs : List Value} {rows : List (List Int)} (h : RowsV w v vs rows) {b M d : Nat} {q : List Int} {t : TypeId} (hM : q.length = M) (hq : w.heap[b]? = some (.cells (q.map (Value.int .i64)).toArray t (0, 0))) (hf : Far v b) : RowsV w v (vs ++ [.slice (some ⟨b, 0, none⟩) M d]) (rows ++ [q]) := by
  subst hM
  exact h.snoc (i64_block hq) (fun b' o' e => by injection e with e; injection e with e1 _ _; subst e1; exact ⟨hf, (Array.getElem?_eq_some_iff.1 hq).1⟩)
theorem i64_get {w : World} {P : Option Addr} {q : List Int} (h : I64 w P q) {k : Nat} {x : Int} (hk : q[k]? = some x) : ∃ b o, P = some ⟨b, o, none⟩ ∧ b < w.heap.size ∧ w.cell? ⟨b, o + k, none⟩ = some (.int .i64 x) := by
  obtain ⟨b, o, e, h1, _, h2⟩ := h k x hk
  exact ⟨b, o, e, h1, h2⟩
set_option maxRecDepth 100000 in
set_option maxHeartbeats 8000000 in
theorem rCounts_any (Wn : Nat) (A : Option Addr) (ts : List ByteArray) (c : Nat) (w : World) (hA : Strs w A ts) (hW2 : Wn ≤ 5) (h3 : ts.length ≤ 3) (hf : Fine ts) (hs : Small ts) (long : Nat) (hlg : long ≤ 20) :
    Calls Try.prog 77 #[.int .i64 (Wn : Nat), .slice A ts.length c, .int .i64 (long : Nat)] w (GivesRows w (cRs Wn (lts ts) (long + 1))) := by
  obtain ⟨j0, jh, jz, js, jb⟩ := info_parts infoJ
  obtain ⟨m0, mh, mz, ms, mb⟩ := info_parts infoLJ
  have hpp := Tm.prod_pos (lts ts)
  have hm9 := prodP_small ts hs h3
  have HPLM := hide (fun w' (h : Strs w' A ts) => Places_m A ts c w' h h3 hs)
  have HROW := hide (fun (w' : World) (AO : Option Addr) (h : RowsA w' AO (natR (Tm.placesP (lts ts)))) => places_row h)
  have HPI := hide (fun k h => (Tm.place_is (ts := lts ts) (n := k) h).1)
  have HIL := hide (fun p (hp : Tm.IsPl (lts ts) p) (x : Int) => (Tm.idx_lin (Tm.next_is hp x) 0).2)
  have HCZ := hide (cR_zero Wn (lts ts))
  have HCA := hide (fun n k h => cR_at Wn (lts ts) n k h)
  have HCN := hide (fun n k h x => cV_next Wn (lts ts) n k h x)
  have HCS := hide (fun n k => cV_succ Wn (lts ts) n k)
  have HCM := hide (fun n k => (show cV Wn (lts ts) n k ≤ 1099511627777 from cntC_most _ _ _))
  have HCL := hide (fun n => cR_len Wn (lts ts) n)
  have HRS := hide (fun n => cRs_succ Wn (lts ts) n)
  have HRL := hide (fun n => cRs_len Wn (lts ts) n)
  have HRA := hide (fun (n m : Nat) (h : n < m) => (show (cRs Wn (lts ts) m)[n]? = some (cR Wn (lts ts) n) by simp [cRs, h]))
  have HR0 := hide (show cRs Wn (lts ts) 1 = [cR Wn (lts ts) 0] from rfl)
  have HSL := hide (fun n k c => psumC_le Wn n (Tm.remP (lts ts) (Tm.placeP (lts ts) k)) c)
  have hmk := make_zeros (Tm.prodP (lts ts)) 111 2 j0 (.int .i64 0) und111 jh jz js (by rw [jb]; decide) rfl (by omega)
  generalize natR (Tm.placesP (lts ts)) = rows at *
  generalize Tm.prodP (lts ts) = M at *
  generalize cRs Wn (lts ts) = rs at *
  generalize cR Wn (lts ts) = cr at *
  generalize cV Wn (lts ts) = cv at *
  obtain ⟨m1, hm1⟩ : ∃ m1, M - 1 = m1 := ⟨_, rfl⟩
  rw [hm1] at HCZ
  have hmi : (M : Int) - 1 = (m1 : Nat) := by omega
  have hm1M : m1 < M := by omega
  have hm1i : (m1 : Int) < (M : Nat) := by omega
  clear hm1
  have hW2i : (Wn : Int) ≤ 5 := by omega
  go_enter Try.func77, Try.ntmps77
  go_wp2_with (go_at_call 71; refine (HPLM.out _ hA).mono ?_; rintro e w1 ⟨AO, cO, rfl, hb1, hR1⟩; have hz1 := hb1.size)
  have hI0 : ((w1.alloc (.cells ((Array.replicate M (.int .i64 0)).setIfInBounds m1 (.int .i64 1)) 2)).alloc (.cells #[.slice (some ⟨w1.heap.size, 0, none⟩) M M] 111)).heap[w1.heap.size]? = some (.cells ((cr 0).map (Value.int .i64)).toArray 2 (0, 0)) := by
    rw [← HCZ.out, ← map_set]
    have h := heap_a w1 (.cells ((Array.replicate M (.int .i64 0)).setIfInBounds m1 (.int .i64 1)) 2) (.cells #[.slice (some ⟨w1.heap.size, 0, none⟩) M M] 111)
    simpa using h
  have hown0 : ((w1.alloc (.cells ((Array.replicate M (.int .i64 0)).setIfInBounds m1 (.int .i64 1)) 2)).alloc (.cells #[.slice (some ⟨w1.heap.size, 0, none⟩) M M] 111)).ownsRow w1.heap.size 111 1 (.slice (some ⟨w1.heap.size + 1, 0, none⟩) 1 1) 1 [.slice (some ⟨w1.heap.size, 0, none⟩) M M] := by
    have h := World.ownsRow_lit (e := 111) (base := w1.heap.size) (size := 1) (w1.alloc (.cells ((Array.replicate M (.int .i64 0)).setIfInBounds m1 (.int .i64 1)) 2)) #[.slice (some ⟨w1.heap.size, 0, none⟩) M M] 1 (by simp) (by unfold maxLen; omega) rfl
    rw [World.size_alloc] at h
    exact h
  have hrv0 : RowsV ((w1.alloc (.cells ((Array.replicate M (.int .i64 0)).setIfInBounds m1 (.int .i64 1)) 2)).alloc (.cells #[.slice (some ⟨w1.heap.size, 0, none⟩) M M] 111)) (.slice (some ⟨w1.heap.size + 1, 0, none⟩) 1 1) [.slice (some ⟨w1.heap.size, 0, none⟩) M M] (rs 1) := by
    rw [HR0.out]
    exact (RowsV.nil _ _).snocM (HCL.out 0) hI0 (fun g hg => by have := Option.some.inj hg; simp only at this; omega)
  have hbW : Below w1.heap.size w1 ((w1.alloc (.cells ((Array.replicate M (.int .i64 0)).setIfInBounds m1 (.int .i64 1)) 2)).alloc (.cells #[.slice (some ⟨w1.heap.size, 0, none⟩) M M] 111)) := by (repeat (first | exact Below.refl _ _ | assumption | (refine below_gr ?_ (by (first | omega | (simp only [zz] at *; omega))) _) | (refine below_alloc ?_ (by (first | omega | (simp only [zz] at *; omega))) _) | (refine Below.setCell ?_ (by (first | omega | (simp only [zz] at *; omega))) _) | refine below_drewN ?_ _ | refine below_drew ?_ | (refine below_step ?_ (by assumption) (by (first | omega | (simp only [zz] at *; omega))))))
  clear hI0
  go_loopw [9, 10] (fun ov nv wr => ∃ (nn : Nat) (AO' : Option Addr) (cO' : Nat) (vs : List Value), 1 ≤ nn ∧ nn ≤ long + 1 ∧ nv = .int .i64 (nn : Nat) ∧ ov = .slice AO' nn cO' ∧ wr.ownsRow w1.heap.size 111 1 (.slice AO' nn cO') nn vs ∧ RowsV wr (.slice AO' nn cO') vs (rs nn) ∧ Below w1.heap.size w1 wr) (fun _ nv _ => long + 1 - (intOf nv).toNat)
  case atStart => exact ⟨1, _, _, _, Nat.le_refl _, by omega, rfl, rfl, hown0, hrv0, hbW⟩
  case round =>
    clear hown0 hrv0 hbW
    obtain ⟨nn, AO', cO', vs, hn1, hn2, rfl, rfl, hown, hrv, hb⟩ := hrel
    obtain ⟨wn, rfl⟩ : ∃ wn : World, wn = wr := ⟨_, rfl⟩
    have hzn := hb.size
    by_cases hnl : nn ≤ long
    · have hnli : (nn : Int) ≤ (long : Nat) := by omega
      obtain ⟨n', hn'⟩ : ∃ n', nn = n' + 1 := ⟨nn - 1, by omega⟩
      have hnsub : (nn : Int) - 1 = (n' : Nat) := by omega
      obtain ⟨qb, qo, rfl, hqb, P2, d2, hcQ, hIQ⟩ := rowsA_get (rows_of hown hrv) (HRA.out n' nn (by omega)) (HCL.out n')
      have HSU := hide (fun k => (show cv nn k = min (psumC Wn n' (Tm.remP (lts ts) (Tm.placeP (lts ts) k)) Wn) 1099511627777 by have h := HCS.out n' k; rw [← hn'] at h; exact h))
      have hnn0 : (0 : Int) ≤ (n' : Nat) := by omega
      have hnn1 : (n' : Int) < (nn : Nat) := by omega
      have HNN := hide hn'
      clear hn'
      go_wp2
      go_loopw [11] (fun kv wr => ∃ (kk : Nat) (T : List Int), kk ≤ M ∧ kv = .int .i64 (kk : Nat) ∧ Hid (T.length = M) ∧ Hid (∀ j : Nat, j < kk → T.getD j 0 = (cv nn j : Nat)) ∧ wr.heap[wn.heap.size]? = some (.cells (T.map (Value.int .i64)).toArray 2 (0, 0)) ∧ Below wn.heap.size wn wr) (fun kv _ => M - (intOf kv).toNat)
      case atStart =>
        refine ⟨0, List.replicate M 0, Nat.zero_le _, rfl, hide (by simp), hide (fun j hj => absurd hj (Nat.not_lt_zero _)), ?_, below_alloc (Below.refl _ _) (Nat.le_refl _) _⟩
        have h := heap_alloc_new wn (.cells (Array.replicate M (.int .i64 0)) 2)
        simpa using h
      case round =>
        obtain ⟨kk, T, hkk, rfl, HTL, HTV, hHO, hb2⟩ := hrel
        obtain ⟨wo, rfl⟩ : ∃ wo : World, wo = wr := ⟨_, rfl⟩
        have hOl := (Array.getElem?_eq_some_iff.1 hHO).1
        by_cases hkl : kk < M
        · have hkli : (kk : Int) < (M : Nat) := by omega
          have HS0 := hide (show psumC Wn n' (Tm.remP (lts ts) (Tm.placeP (lts ts) kk)) 0 = 0 from rfl)
          have HSS := hide (fun cn => (show psumC Wn n' (Tm.remP (lts ts) (Tm.placeP (lts ts) kk)) (cn + 1) = psumC Wn n' (Tm.remP (lts ts) (Tm.placeP (lts ts) kk)) cn + cv n' (Tm.idxP (lts ts) (Tm.nextP (lts ts) (Tm.placeP (lts ts) kk) ((cn : Nat) : Int)) 0) by rw [psumC_step, HCN.out n' kk hkl]))
          have HSB := hide (fun cn => HSL.out n' kk cn)
          have HSK := hide (HSU.out kk)
          have hp := HPI.out kk hkl
          have HRK := hide (fun w' AO (h : RowsA w' AO rows) => HROW.out w' AO h kk hkl)
          generalize psumC Wn n' (Tm.remP (lts ts) (Tm.placeP (lts ts) kk)) = S at *
          generalize Tm.placeP (lts ts) kk = p at *
          go_wp2
          go_loopw [12, 13] (fun sv cvv wr => ∃ cn : Nat, cn ≤ Wn ∧ cvv = .int .i64 (cn : Nat) ∧ sv = .int .i64 (S cn : Nat) ∧ wr.heap[wn.heap.size]? = some (.cells (T.map (Value.int .i64)).toArray 2 (0, 0)) ∧ Below wn.heap.size wn wr) (fun _ cvv _ => Wn - (intOf cvv).toNat)
          case atStart => exact ⟨0, Nat.zero_le _, rfl, by rw [HS0.out]; rfl, hHO, hb2⟩
          case round =>
            clear hHO hb2 hOl
            obtain ⟨cn, hcn, rfl, rfl, hHO, hb2⟩ := hrel
            have hOl := (Array.getElem?_eq_some_iff.1 hHO).1
            have hb1r : Below w1.heap.size w1 wr := below_step hb hb2 hzn
            have hbw : Below w.heap.size w wr := below_step hb1 hb1r hz1
            by_cases hcl : cn < Wn
            · have hcli : (cn : Int) < (Wn : Nat) := by omega
              obtain ⟨ob, oo, rfl, hob, P, dd, hcP, hIP⟩ := HRK.out wr AO (hR1.ext hb1r)
              have HNX := hide (fun w' (hA : Strs w' A ts) (hI : I64 w' P (natI p)) => next_m A ts c P p dd (cn : Int) w' hA hI h3 hp hf)
              have hn2 := HIL.out p hp (cn : Int)
              have hq := Tm.next_is hp (cn : Int)
              have HSS1 := hide (HSS.out cn)
              have hsb := HSB.out cn
              generalize Tm.nextP (lts ts) p (cn : Int) = q at *
              have HIX := hide (fun w' (hA : Strs w' A ts) A2 c2 (hI : I64 w' A2 (natI q)) => rindex_any A ts c A2 q c2 w' hA hI h3 hq hs)
              generalize Tm.idxP (lts ts) q 0 = n at *
              obtain ⟨rb, ro, rfl, hrb, hcR⟩ := i64_get (hIQ.ext hb2) (HCA.out n' n hn2)
              have hcQ2 := (hb2.cell (p := ⟨qb, qo + n', none⟩) hqb).trans hcQ
              have hqb2 : qb < wr.heap.size := by have := hb2.size; omega
              have hcb := HCM.out n' n
              generalize cv n' n = x at *
              generalize S cn = s0 at *
              have hs5 : s0 ≤ 4398046511108 := by
                have : cn * 1099511627777 ≤ 4 * 1099511627777 := Nat.mul_le_mul_right _ (by omega)
                omega
              have hwr0 : IntKind.i64.wrap ((n' : Nat) : Int) = (n' : Nat) := IntWalk.i64_in _ (by omega)
              have hwr1 : IntKind.i64.wrap ((s0 : Int) + (x : Nat)) = (s0 : Int) + (x : Nat) := IntWalk.i64_in _ (by omega)
              have hni : (n : Int) < (M : Nat) := by omega
              have hn0 : (0 : Int) ≤ (n : Int) := by omega
              have hk0 : (0 : Int) ≤ (kk : Int) := by omega
              clear hsb
              go_wp2
              go_region_held3 (fun w' => w'.cell? ⟨qb, qo + n', none⟩ = some (.slice (some ⟨rb, ro, none⟩) M d2) ∧ w'.cell? ⟨ob, oo + kk, none⟩ = some (.slice P p.length dd) ∧ w'.cell? ⟨rb, ro + n, none⟩ = some (.int .i64 (x : Nat))) (go_keep) (first | (go_at_call 73; refine (HNX.out _ (hA.ext (by (repeat (first | exact Below.refl _ _ | assumption | refine below_drewN ?_ _ | refine below_drew ?_ | refine below_gr ?_ ?_ _ | refine below_alloc ?_ ?_ _ | refine Below.setCell ?_ ?_ _ | refine below_step ?_ (by assumption) ?_ | omega | (simp only [zz] at *; omega))))) (hIP.ext (by (repeat (first | exact Below.refl _ _ | assumption | refine below_drewN ?_ _ | refine below_drew ?_ | refine below_gr ?_ ?_ _ | refine below_alloc ?_ ?_ _ | refine Below.setCell ?_ ?_ _ | refine below_step ?_ (by assumption) ?_ | omega | (simp only [zz] at *; omega)))))).mono ?_; rintro e w8 ⟨A2, c2, rfl, hb8, hI2⟩; have hz8 := hb8.size; (try simp only [zz] at hz8); have hs8 : qb < w8.heap.size := (by (first | omega | (simp only [zz] at *; omega))); have ho8 := own_cell hb8 (b := qb) (by (first | omega | (simp only [zz] at *; omega))); have hq8 := own_frozen hb8 (b := qb) (by (first | omega | (simp only [zz] at *; omega))); have hs8 : ob < w8.heap.size := (by (first | omega | (simp only [zz] at *; omega))); have ho8 := own_cell hb8 (b := ob) (by (first | omega | (simp only [zz] at *; omega))); have hq8 := own_frozen hb8 (b := ob) (by (first | omega | (simp only [zz] at *; omega))); have hs8 : rb < w8.heap.size := (by (first | omega | (simp only [zz] at *; omega))); have ho8 := own_cell hb8 (b := rb) (by (first | omega | (simp only [zz] at *; omega))); have hq8 := own_frozen hb8 (b := rb) (by (first | omega | (simp only [zz] at *; omega))); have hs8 : wn.heap.size < w8.heap.size := (by (first | omega | (simp only [zz] at *; omega))); have ho8 := own_cell hb8 (b := wn.heap.size) (by (first | omega | (simp only [zz] at *; omega))); have hq8 := own_frozen hb8 (b := wn.heap.size) (by (first | omega | (simp only [zz] at *; omega))); have hlt8 : ∀ b, b < wr.heap.size → b < w8.heap.size := fun b hb => (by (first | omega | (simp only [zz] at *; omega))); have hc8 : ∀ b o, b < wr.heap.size → w8.cell? ⟨b, o, none⟩ = wr.cell? ⟨b, o, none⟩ := old_cell (by (repeat (first | exact Below.refl _ _ | assumption | refine below_drewN ?_ _ | refine below_drew ?_ | refine below_gr ?_ ?_ _ | refine below_alloc ?_ ?_ _ | refine Below.setCell ?_ ?_ _ | refine below_step ?_ (by assumption) ?_ | omega | (simp only [zz] at *; omega))))) | (go_at_call 72; refine (HIX.out _ (hA.ext (by (repeat (first | exact Below.refl _ _ | assumption | refine below_drewN ?_ _ | refine below_drew ?_ | refine below_gr ?_ ?_ _ | refine below_alloc ?_ ?_ _ | refine Below.setCell ?_ ?_ _ | refine below_step ?_ (by assumption) ?_ | omega | (simp only [zz] at *; omega))))) _ _ hI2).mono ?_; rintro e w9 ⟨rfl, hb9⟩; replace hb9 := ex_below hb9; have hz9 := hb9.size; (try simp only [zz] at hz9); have hs9 : qb < w9.heap.size := (by (first | omega | (simp only [zz] at *; omega))); have ho9 := own_cell hb9 (b := qb) (by (first | omega | (simp only [zz] at *; omega))); have hq9 := own_frozen hb9 (b := qb) (by (first | omega | (simp only [zz] at *; omega))); have hs9 : ob < w9.heap.size := (by (first | omega | (simp only [zz] at *; omega))); have ho9 := own_cell hb9 (b := ob) (by (first | omega | (simp only [zz] at *; omega))); have hq9 := own_frozen hb9 (b := ob) (by (first | omega | (simp only [zz] at *; omega))); have hs9 : rb < w9.heap.size := (by (first | omega | (simp only [zz] at *; omega))); have ho9 := own_cell hb9 (b := rb) (by (first | omega | (simp only [zz] at *; omega))); have hq9 := own_frozen hb9 (b := rb) (by (first | omega | (simp only [zz] at *; omega))); have hs9 : wn.heap.size < w9.heap.size := (by (first | omega | (simp only [zz] at *; omega))); have ho9 := own_cell hb9 (b := wn.heap.size) (by (first | omega | (simp only [zz] at *; omega))); have hq9 := own_frozen hb9 (b := wn.heap.size) (by (first | omega | (simp only [zz] at *; omega))); have hlt9 : ∀ b, b < wr.heap.size → b < w9.heap.size := fun b hb => (by (first | omega | (simp only [zz] at *; omega))); have hc9 : ∀ b o, b < wr.heap.size → w9.cell? ⟨b, o, none⟩ = wr.cell? ⟨b, o, none⟩ := old_cell (by (repeat (first | exact Below.refl _ _ | assumption | refine below_drewN ?_ _ | refine below_drew ?_ | refine below_gr ?_ ?_ _ | refine below_alloc ?_ ?_ _ | refine Below.setCell ?_ ?_ _ | refine below_step ?_ (by assumption) ?_ | omega | (simp only [zz] at *; omega))))))
              go_wp2
              have hb9 : Below wr.heap.size wr w9 := by (repeat (first | exact Below.refl _ _ | assumption | (refine below_gr ?_ (by (first | omega | (simp only [zz] at *; omega))) _) | (refine below_alloc ?_ (by (first | omega | (simp only [zz] at *; omega))) _) | (refine Below.setCell ?_ (by (first | omega | (simp only [zz] at *; omega))) _) | refine below_drewN ?_ _ | refine below_drew ?_ | (refine below_step ?_ (by assumption) (by (first | omega | (simp only [zz] at *; omega))))))
              exact ⟨⟨cn + 1, by omega, by go_num, by rw [HSS1.out]; push_cast; rfl, (hb9.block _ hOl).trans hHO, hb2.trans (hb9.mono hb2.size)⟩, by simp [intOf]; omega⟩
            · have hce : cn = Wn := by omega
              have hcli : ¬ ((cn : Int) < (Wn : Nat)) := by omega
              have hsb := HSB.out cn
              have HSK2 : Hid (cv nn kk = min (S cn) 1099511627777) := hide (by rw [HSK.out, hce])
              have hs5 : S cn ≤ 5497558138885 := by
                have : cn * 1099511627777 ≤ 5 * 1099511627777 := Nat.mul_le_mul_right _ (by omega)
                omega
              generalize S cn = s0 at *
              clear hsb
              have hfz := obj_fz hHO kk
              have hki : (kk : Int) < (M : Nat) := by omega
              have hck := obj_at hHO kk _ (map_at HTL.out hkl)
              by_cases hmn : s0 ≤ 1099511627777
              · have hmi2 : (s0 : Int) ≤ 1099511627777 := by omega
                go_wp2
                refine ⟨⟨kk + 1, T.set kk ((s0 : Nat) : Int), by omega, by go_num, hide (by rw [List.length_set]; exact HTL.out), hide (fun j hj => ?_), ?_, below_set0 hb2 (Nat.le_refl _)⟩, by simp [intOf]; omega⟩
                · rw [getD_set (by rw [HTL.out]; exact hkl)]
                  split
                  · rename_i e; rw [e, HSK2.out]; omega
                  · exact HTV.out j (by omega)
                · rw [← map_set]; exact set_obj hHO kk _
              · have hmi2 : ¬ ((s0 : Int) ≤ 1099511627777) := by omega
                go_wp2
                refine ⟨⟨kk + 1, T.set kk 1099511627777, by omega, by go_num, hide (by rw [List.length_set]; exact HTL.out), hide (fun j hj => ?_), ?_, below_set0 hb2 (Nat.le_refl _)⟩, by simp [intOf]; omega⟩
                · rw [getD_set (by rw [HTL.out]; exact hkl)]
                  split
                  · rename_i e; rw [e, HSK2.out]; omega
                  · exact HTV.out j (by omega)
                · rw [← map_set]; exact set_obj hHO kk _
        · have hke : kk = M := by omega
          have hkli : ¬ ((kk : Int) < (M : Nat)) := by omega
          have hTc : T = cr nn := by
            apply List.ext_getElem
            · rw [HTL.out, HCL.out]
            · intro j h1 h2
              have e1 := HTV.out j (by rw [hke, ← HTL.out]; exact h1)
              have e2 := HCA.out nn j (by rw [← HTL.out]; exact h1)
              rw [List.getD_eq_getElem?_getD, List.getElem?_eq_getElem h1] at e1
              rw [List.getElem?_eq_getElem h2] at e2
              rw [Option.some.inj e2]
              exact e1
          rw [hTc] at hHO
          have HTC := hide hTc
          clear hTc hcQ
          have hzo := hb2.size
          have hownR := own_below hown hb2
          have hrvR := hrv.ext hb2
          have hfar : Far (.slice (some ⟨qb, qo, none⟩) nn cO') wn.heap.size := fun g hg => by have := (hown.lt g hg).2; omega
          go_wp2_with (at_builtin; refine wpList_appN _ rfl (.tmp 68) (.tmp 70) 112 rfl (w1.heap.size) 111 m0 _ 1 24 und112 mh mz ms mb rfl (by decide) (_) (nn) (vs) rfl (hownR.alloc _) (some ⟨wo.heap.size, 0, none⟩) (1) (1) ([.slice (some ⟨wn.heap.size, 0, none⟩) M M]) rfl (rd_new1 _ _ _) (by simp [Value.oneCell']) (by unfold maxLen; omega) (by omega) (by (first | omega | (simp only [zz]; omega) | (simp only [zz] at *; omega) | (simp; done) | (simp; omega))) ?_; intro A3 c3 w3 hown3 hgr3 far3)
          have hbA : Below wo.heap.size wo (wo.alloc (.cells #[.slice (some ⟨wn.heap.size, 0, none⟩) M M] 111)) := below_alloc (Below.refl _ _) (Nat.le_refl _) _
          have hrvA := hrvR.ext hbA
          have hHA := (hbA.block _ hOl).trans hHO
          have hrvN := (hrvA.snocM (d := M) (HCL.out nn) hHA hfar).grown hgr3 far3
          refine ⟨⟨nn + 1, A3, c3, _, by omega, by omega, by go_num, rfl, hown3, ?_, ?_⟩, by simp [intOf]; omega⟩
          · rw [HRS.out nn]; exact hrvN
          · exact gb_below (below_alloc (below_step hb hb2 hzn) (by omega) _) hgr3 (by simp; omega) (fun k hk => (hown.lt k hk).1)
    · have hne : nn = long + 1 := by omega
      have hnli : ¬ ((nn : Int) ≤ (long : Nat)) := by omega
      have hRA := rows_of hown hrv
      have HLN : Hid ((rs (long + 1)).length = nn) := hide (by rw [HRL.out, hne])
      have HRE : Hid (rs (long + 1) = rs nn) := hide (by rw [hne])
      clear hne
      go_wp2
      go_ret
      exact ⟨AO', cO', by rw [HLN.out]; rfl, grew_of (below_step hb1 hb hz1), by rw [HRE.out]; exact hRA⟩
end Go.Proofs.Ytafncmgijbkomaa
namespace Go.Proofs.Ytafncmgijbkomaa
open Go.RowKit Go.Maps Go.Lib
theorem cV_first (W : Nat) (ts : List (List Int)) (n : Nat) : cV W ts n 0 = Tm.cntC W n ts := by
  have h0 := Tm.place_idx (Tm.zero_is ts)
  rw [Tm.idx_zero] at h0
  unfold cV
  rw [h0, Tm.rem_zero]
theorem countE_val {W : Int} {ts : List ByteArray} {lg : Nat} (h0 : openE W ts (lg : Nat) = 0) : ∃ Wn : Nat, W = (Wn : Nat) ∧ lg ≤ 20 ∧ Wn ≤ 5 ∧ 1 ≤ Wn ∧ ts.length ≤ 3 ∧ 1 ≤ ts.length ∧ Fine ts ∧ Small ts := by
  obtain ⟨hW1, hW2, h0', h3, hs, hf, _, hlo⟩ := chk_val (open_val h0).1
  exact ⟨W.toNat, by omega, open_lg h0, by omega, by omega, h3, h0', hf, hs⟩
set_option maxRecDepth 100000 in
set_option maxHeartbeats 1000000 in
theorem rCount_any (W : Int) (A : Option Addr) (ts : List ByteArray) (c : Nat) (w : World) (hA : Strs w A ts) (hl : ts.length ≤ 1000) (hsz : ∀ k, (h : k < ts.length) → ts[k].size ≤ 1000000) (long : Int) : Calls Try.prog 31 #[.agg #[.int .i64 W, .slice A ts.length c], .int .i64 long] w (Gives w (tup2V (countR W ts long))) := by
  by_cases h0 : openE W ts long = 0
  · obtain ⟨lg, rfl⟩ : ∃ lg : Nat, long = (lg : Nat) := ⟨long.toNat, by have := (open_val h0).2; simp [withinB, outB] at this; omega⟩
    obtain ⟨Wn, rfl, hlg, hW5, _, h3, _, hf, hs⟩ := countE_val h0
    have h1 : (openE (Wn : Nat) ts (lg : Nat) != 0) = false := by simp [h0]
    have HV := hide (show countR (Wn : Nat) ts (lg : Nat) = if 1099511627776 < Tm.cntC Wn lg (lts ts) then ((0 : Int), (4 : Int)) else ((Tm.cntC Wn lg (lts ts) : Nat), 0) by simp [countR, h0])
    have HCT := hide (fun w' (h : Strs w' A ts) => rCounts_any Wn A ts c w' h hW5 h3 hf hs lg hlg)
    have HGET := hide (fun w' AR (h : RowsA w' AR (cRs Wn (lts ts) (lg + 1))) => rowsA_get h (show (cRs Wn (lts ts) (lg + 1))[lg]? = some (cR Wn (lts ts) lg) by simp [cRs]) (cR_len Wn (lts ts) lg))
    have HV0 := hide (show (cR Wn (lts ts) lg)[0]? = some ((Tm.cntC Wn lg (lts ts) : Nat) : Int) by rw [← cV_first]; exact cR_at _ _ _ _ (Tm.prod_pos _))
    have hmost := cntC_most Wn lg (lts ts)
    have HRL := hide (cRs_len Wn (lts ts) (lg + 1))
    have hpp := Tm.prod_pos (lts ts)
    rw [HV.out]
    generalize cRs Wn (lts ts) (lg + 1) = rs at *
    generalize Tm.prodP (lts ts) = M at *
    generalize Tm.cntC Wn lg (lts ts) = C at *
    generalize cR Wn (lts ts) lg = cr at *
    have hli : (lg : Int) < (rs.length : Nat) := by rw [HRL.out]; omega
    have hl0 : (0 : Int) ≤ (lg : Int) := by omega
    have hpi : (0 : Int) < (M : Nat) := by omega
    replace h0 := hide h0
    clear HV
    by_cases hC : 1099511627776 < C
    · have hCz : ((C : Int) == 1099511627777) = true := by simp; omega
      rw [if_pos hC]
      unfold tup2V
      clear hC
      go_enter Try.func31, Try.ntmps31
      go_wp2_with (first
    | (go_at_call 76; refine (rLong_any (Wn : Nat) A ts c _ (hA.ext (by (repeat (first | exact Below.refl _ _ | assumption | refine below_drewN ?_ _ | refine below_drew ?_ | refine below_gr ?_ ?_ _ | refine below_alloc ?_ ?_ _ | refine Below.setCell ?_ ?_ _ | refine below_step ?_ (by assumption) ?_ | omega | (simp only [zz] at *; omega))))) hl hsz (lg : Nat)).mono ?_; rintro e w1 ⟨rfl, hb1⟩; replace hb1 := ex_below hb1; have hz1 := hb1.size; (try simp only [zz] at hz1); have hs1 : w.heap.size < w1.heap.size := (by (first | omega | (simp only [zz] at *; omega))); have ho1 := own_cell hb1 (b := w.heap.size) (by (first | omega | (simp only [zz] at *; omega))); have hq1 := own_frozen hb1 (b := w.heap.size) (by (first | omega | (simp only [zz] at *; omega))); have hlt1 : ∀ b, b < w.heap.size → b < w1.heap.size := fun b hb => (by (first | omega | (simp only [zz] at *; omega))); have hc1 : ∀ b o, b < w.heap.size → w1.cell? ⟨b, o, none⟩ = w.cell? ⟨b, o, none⟩ := old_cell (by (repeat (first | exact Below.refl _ _ | assumption | refine below_drewN ?_ _ | refine below_drew ?_ | refine below_gr ?_ ?_ _ | refine below_alloc ?_ ?_ _ | refine Below.setCell ?_ ?_ _ | refine below_step ?_ (by assumption) ?_ | omega | (simp only [zz] at *; omega)))))
    | (go_at_call 77; refine (HCT.out _ (hA.ext (by (repeat (first | exact Below.refl _ _ | assumption | refine below_drewN ?_ _ | refine below_drew ?_ | refine below_gr ?_ ?_ _ | refine below_alloc ?_ ?_ _ | refine Below.setCell ?_ ?_ _ | refine below_step ?_ (by assumption) ?_ | omega | (simp only [zz] at *; omega)))))).mono ?_; rintro e w2 ⟨AR, cR2, rfl, hb2, hR2⟩; replace hb2 := hb2.below; have hz2 := hb2.size; (try simp only [zz] at hz2); have hs2 : w.heap.size < w2.heap.size := (by (first | omega | (simp only [zz] at *; omega))); have ho2 := own_cell hb2 (b := w.heap.size) (by (first | omega | (simp only [zz] at *; omega))); have hq2 := own_frozen hb2 (b := w.heap.size) (by (first | omega | (simp only [zz] at *; omega))); have hlt2 : ∀ b, b < w.heap.size → b < w2.heap.size := fun b hb => (by (first | omega | (simp only [zz] at *; omega))); have hc2 : ∀ b o, b < w.heap.size → w2.cell? ⟨b, o, none⟩ = w.cell? ⟨b, o, none⟩ := old_cell (by (repeat (first | exact Below.refl _ _ | assumption | refine below_drewN ?_ _ | refine below_drew ?_ | refine below_gr ?_ ?_ _ | refine below_alloc ?_ ?_ _ | refine Below.setCell ?_ ?_ _ | refine below_step ?_ (by assumption) ?_ | omega | (simp only [zz] at *; omega)))); obtain ⟨qb, qo, rfl, hqb, P2, d2, hcQ, hIQ⟩ := HGET.out _ _ hR2; obtain ⟨rb, ro, rfl, hrb, hcR⟩ := i64_get hIQ HV0.out; rw [Nat.add_zero] at hcR))

      go_ret2
      exact gives_of (rfl) (by (repeat (first | exact Below.refl _ _ | assumption | refine below_drewN ?_ _ | refine below_drew ?_ | refine below_gr ?_ ?_ _ | refine below_alloc ?_ ?_ _ | refine Below.setCell ?_ ?_ _ | refine below_step ?_ (by assumption) ?_ | omega | (simp only [zz] at *; omega))))
    · have hCz : ((C : Int) == 1099511627777) = false := by simp; omega
      rw [if_neg hC]
      unfold tup2V
      clear hC
      go_enter Try.func31, Try.ntmps31
      go_wp2_with (first
    | (go_at_call 76; refine (rLong_any (Wn : Nat) A ts c _ (hA.ext (by (repeat (first | exact Below.refl _ _ | assumption | refine below_drewN ?_ _ | refine below_drew ?_ | refine below_gr ?_ ?_ _ | refine below_alloc ?_ ?_ _ | refine Below.setCell ?_ ?_ _ | refine below_step ?_ (by assumption) ?_ | omega | (simp only [zz] at *; omega))))) hl hsz (lg : Nat)).mono ?_; rintro e w1 ⟨rfl, hb1⟩; replace hb1 := ex_below hb1; have hz1 := hb1.size; (try simp only [zz] at hz1); have hs1 : w.heap.size < w1.heap.size := (by (first | omega | (simp only [zz] at *; omega))); have ho1 := own_cell hb1 (b := w.heap.size) (by (first | omega | (simp only [zz] at *; omega))); have hq1 := own_frozen hb1 (b := w.heap.size) (by (first | omega | (simp only [zz] at *; omega))); have hlt1 : ∀ b, b < w.heap.size → b < w1.heap.size := fun b hb => (by (first | omega | (simp only [zz] at *; omega))); have hc1 : ∀ b o, b < w.heap.size → w1.cell? ⟨b, o, none⟩ = w.cell? ⟨b, o, none⟩ := old_cell (by (repeat (first | exact Below.refl _ _ | assumption | refine below_drewN ?_ _ | refine below_drew ?_ | refine below_gr ?_ ?_ _ | refine below_alloc ?_ ?_ _ | refine Below.setCell ?_ ?_ _ | refine below_step ?_ (by assumption) ?_ | omega | (simp only [zz] at *; omega)))))
    | (go_at_call 77; refine (HCT.out _ (hA.ext (by (repeat (first | exact Below.refl _ _ | assumption | refine below_drewN ?_ _ | refine below_drew ?_ | refine below_gr ?_ ?_ _ | refine below_alloc ?_ ?_ _ | refine Below.setCell ?_ ?_ _ | refine below_step ?_ (by assumption) ?_ | omega | (simp only [zz] at *; omega)))))).mono ?_; rintro e w2 ⟨AR, cR2, rfl, hb2, hR2⟩; replace hb2 := hb2.below; have hz2 := hb2.size; (try simp only [zz] at hz2); have hs2 : w.heap.size < w2.heap.size := (by (first | omega | (simp only [zz] at *; omega))); have ho2 := own_cell hb2 (b := w.heap.size) (by (first | omega | (simp only [zz] at *; omega))); have hq2 := own_frozen hb2 (b := w.heap.size) (by (first | omega | (simp only [zz] at *; omega))); have hlt2 : ∀ b, b < w.heap.size → b < w2.heap.size := fun b hb => (by (first | omega | (simp only [zz] at *; omega))); have hc2 : ∀ b o, b < w.heap.size → w2.cell? ⟨b, o, none⟩ = w.cell? ⟨b, o, none⟩ := old_cell (by (repeat (first | exact Below.refl _ _ | assumption | refine below_drewN ?_ _ | refine below_drew ?_ | refine below_gr ?_ ?_ _ | refine below_alloc ?_ ?_ _ | refine Below.setCell ?_ ?_ _ | refine below_step ?_ (by assumption) ?_ | omega | (simp only [zz] at *; omega)))); obtain ⟨qb, qo, rfl, hqb, P2, d2, hcQ, hIQ⟩ := HGET.out _ _ hR2; obtain ⟨rb, ro, rfl, hrb, hcR⟩ := i64_get hIQ HV0.out; rw [Nat.add_zero] at hcR))

      go_ret2
      exact gives_of (rfl) (by (repeat (first | exact Below.refl _ _ | assumption | refine below_drewN ?_ _ | refine below_drew ?_ | refine below_gr ?_ ?_ _ | refine below_alloc ?_ ?_ _ | refine Below.setCell ?_ ?_ _ | refine below_step ?_ (by assumption) ?_ | omega | (simp only [zz] at *; omega))))
  · have HV := hide (show countR W ts long = (0, openE W ts long) by simp [countR, h0])
    have h1 : (openE W ts long != 0) = true := by simp [h0]
    rw [HV.out]
    unfold tup2V
    replace h0 := hide h0
    go_enter Try.func31, Try.ntmps31
    go_wp2_with (first
    | (go_at_call 76; refine (rLong_any W A ts c _ (hA.ext (by (repeat (first | exact Below.refl _ _ | assumption | refine below_drewN ?_ _ | refine below_drew ?_ | refine below_gr ?_ ?_ _ | refine below_alloc ?_ ?_ _ | refine Below.setCell ?_ ?_ _ | refine below_step ?_ (by assumption) ?_ | omega | (simp only [zz] at *; omega))))) hl hsz long).mono ?_; rintro e w1 ⟨rfl, hb1⟩; replace hb1 := ex_below hb1; have hz1 := hb1.size; (try simp only [zz] at hz1); have hs1 : w.heap.size < w1.heap.size := (by (first | omega | (simp only [zz] at *; omega))); have ho1 := own_cell hb1 (b := w.heap.size) (by (first | omega | (simp only [zz] at *; omega))); have hq1 := own_frozen hb1 (b := w.heap.size) (by (first | omega | (simp only [zz] at *; omega))); have hlt1 : ∀ b, b < w.heap.size → b < w1.heap.size := fun b hb => (by (first | omega | (simp only [zz] at *; omega))); have hc1 : ∀ b o, b < w.heap.size → w1.cell? ⟨b, o, none⟩ = w.cell? ⟨b, o, none⟩ := old_cell (by (repeat (first | exact Below.refl _ _ | assumption | refine below_drewN ?_ _ | refine below_drew ?_ | refine below_gr ?_ ?_ _ | refine below_alloc ?_ ?_ _ | refine Below.setCell ?_ ?_ _ | refine below_step ?_ (by assumption) ?_ | omega | (simp only [zz] at *; omega))))))

    go_ret2
    exact gives_of (rfl) (by (repeat (first | exact Below.refl _ _ | assumption | refine below_drewN ?_ _ | refine below_drew ?_ | refine below_gr ?_ ?_ _ | refine below_alloc ?_ ?_ _ | refine Below.setCell ?_ ?_ _ | refine below_step ?_ (by assumption) ?_ | omega | (simp only [zz] at *; omega))))
end Go.Proofs.Ytafncmgijbkomaa

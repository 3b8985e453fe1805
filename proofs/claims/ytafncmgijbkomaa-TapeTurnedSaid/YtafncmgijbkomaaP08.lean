/- Proved here: the place behind the next impulse of a window on each tape; how many nights, a part of the proofs about the tape laws. Conditions: those that each theorem names, no others. -/
import Derived.Test.YtafncmgijbkomaaP34
import Derived.WalkKit
import Derived.WalkSpells
import Derived.WalkLawsBesides
import Derived.Below
import Derived.Deep.QuietTactic
import Derived.BigQuiet
import Derived.Deep.Light
import Derived.Test.YtafncmgijbkomaaP06
set_option linter.unusedSimpArgs false
set_option linter.unusedVariables false
namespace Go.Proofs.Ytafncmgijbkomaa
open Go.RowKit
/-- where the next one stands, or the length -/
def scan (t : List Int) (c : Int) (k : Nat) : Nat := k + (t.drop k).findIdx (fun x => decide (x = c))
theorem scan_hit {t : List Int} {c : Int} {k : Nat} (h : k < t.length) (e : t[k] = c) : scan t c k = k := by
  unfold scan
  rw [List.drop_eq_getElem_cons h, List.findIdx_cons]
  simp [e]
theorem scan_miss {t : List Int} {c : Int} {k : Nat} (h : k < t.length) (e : t[k] ≠ c) : scan t c k = scan t c (k + 1) := by
  unfold scan
  conv => lhs; rw [List.drop_eq_getElem_cons h, List.findIdx_cons]
  simp [e]
  omega
theorem scan_end (t : List Int) (c : Int) : scan t c t.length = t.length := by unfold scan; simp
theorem scan_le {t : List Int} {c : Int} {k : Nat} (h : k ≤ t.length) : k ≤ scan t c k ∧ scan t c k ≤ t.length := by
  unfold scan
  have := List.findIdx_le_length (p := fun x => decide (x = c)) (xs := t.drop k)
  rw [List.length_drop] at this
  omega
theorem aft_scan (t : List Int) (c : Int) (k : Nat) (h : k ≤ t.length) : Tm.aft c (t.drop k) = if scan t c k < t.length then some (t.drop (scan t c k + 1)) else none := by
  obtain ⟨d, hd⟩ : ∃ d, t.length - k = d := ⟨_, rfl⟩
  induction d generalizing k with
  | zero =>
    have : k = t.length := by omega
    subst this
    rw [scan_end, List.drop_length, if_neg (Nat.lt_irrefl _)]; rfl
  | succ d ih =>
    have hk : k < t.length := by omega
    rw [List.drop_eq_getElem_cons hk]
    unfold Tm.aft
    by_cases e : t[k] = c
    · rw [if_pos e, scan_hit hk e, if_pos hk]
    · rw [if_neg e, scan_miss hk e]; exact ih (k + 1) (by omega) (by omega)
/-- the place behind the next one on each tape -/
def aftPl (ts : List (List Int)) (p : List Nat) (c : Int) : List Nat := List.zipWith (fun t k => scan t c k + 1) ts p
def aftOk (ts : List (List Int)) (p : List Nat) (c : Int) : Bool := (List.zip ts p).all (fun q => decide (scan q.1 c q.2 < q.1.length))
theorem afts_ok {ts : List (List Int)} {p : List Nat} (hp : Tm.IsPl ts p) (c : Int) : Tm.afts c (Tm.remP ts p) = if aftOk ts p c = true then some (Tm.remP ts (aftPl ts p c)) else none := by
  induction hp with
  | nil => rfl
  | @cons t k ts p h r ih =>
    have e1 : Tm.remP (t :: ts) (k :: p) = t.drop k :: Tm.remP ts p := rfl
    rw [e1, Tm.afts_cons, ih, aft_scan t c k h]
    have e2 : aftOk (t :: ts) (k :: p) c = (decide (scan t c k < t.length) && aftOk ts p c) := by simp [aftOk]
    rw [e2]
    by_cases h1 : scan t c k < t.length
    · rw [if_pos h1]
      cases h2 : aftOk ts p c with
      | true => rw [if_pos rfl, if_pos (by simp [h1])]; rfl
      | false => rw [if_neg (by simp), if_neg (by simp)]
    · rw [if_neg h1]
      cases h2 : aftOk ts p c with
      | true => rw [if_pos rfl, if_neg (by simp [h1])]
      | false => rw [if_neg (by simp), if_neg (by simp)]
theorem aft_is {ts : List (List Int)} {p : List Nat} (hp : Tm.IsPl ts p) (c : Int) (h : aftOk ts p c = true) : Tm.IsPl ts (aftPl ts p c) := by
  induction hp with
  | nil => exact .nil
  | @cons t k ts p h0 r ih =>
    have e2 : aftOk (t :: ts) (k :: p) c = (decide (scan t c k < t.length) && aftOk ts p c) := by simp [aftOk]
    rw [e2, Bool.and_eq_true, decide_eq_true_eq] at h
    exact .cons (by show scan t c k + 1 ≤ t.length; omega) (ih h.2)
theorem aft_len (ts : List (List Int)) (p : List Nat) (c : Int) (h : p.length = ts.length) : (aftPl ts p c).length = p.length := by simp [aftPl, h]
theorem aft_at (ts : List ByteArray) (p : List Nat) (c : Int) (k : Nat) (h1 : k < ts.length) (h2 : k < p.length) (h : k < (aftPl (lts ts) p c).length) : (aftPl (lts ts) p c)[k] = scan (lt ts[k]) c p[k] + 1 := by
  simp [aftPl, lts]
theorem aftOk_false {ts : List ByteArray} {p : List Nat} {c : Int} {k : Nat} (h1 : k < ts.length) (h2 : k < p.length) (h : scan (lt ts[k]) c p[k] = ts[k].size) : aftOk (lts ts) p c = false := by
  unfold aftOk
  rw [List.all_eq_false]
  refine ⟨(lt ts[k], p[k]), ?_, by simp [h, lt_len]⟩
  refine List.mem_of_getElem? (i := k) ?_
  rw [List.getElem?_zip_eq_some]
  simp [lts, h1, h2]
theorem aftOk_true {ts : List ByteArray} {p : List Nat} {c : Int} (hl : p.length = ts.length) (h : ∀ k, (h1 : k < ts.length) → (h2 : k < p.length) → scan (lt ts[k]) c p[k] < ts[k].size) : aftOk (lts ts) p c = true := by
  unfold aftOk
  rw [List.all_eq_true]
  intro q hq
  obtain ⟨k, hk, rfl⟩ := List.getElem_of_mem hq
  have hk' : k < ts.length := by simpa [lts, hl] using hk
  have := h k hk' (by omega)
  simp [lts, lt_len, this]
theorem lt_get (s : ByteArray) (k : Nat) (hk : k < s.size) : (lt s)[k]'(by rw [lt_len]; exact hk) = (s[k].toNat : Int) - 97 := by
  have := lt_at s k hk
  rw [List.getElem?_eq_getElem (by rw [lt_len]; exact hk)] at this
  exact Option.some.inj this
/-- what after comes to -/
def GivesA (w : World) (ts : List ByteArray) (p : List Nat) (c : Int) (e : Ending) (w' : World) : Prop :=
  ∃ q : List Nat, e = .returned (.tuple #[plV q, .bool (aftOk (lts ts) p c)]) ∧ (aftOk (lts ts) p c = true → q = aftPl (lts ts) p c) ∧ Grew w w'
set_option maxRecDepth 100000 in
set_option maxHeartbeats 2000000 in
theorem after_any (R : Nat) (W : Int) (A : Option Addr) (ts : List ByteArray) (cap : Nat) (p : List Nat) (c : Int) (w : World) (hR : ReelAt w R W A ts cap) (hA : Strs w A ts) (h3 : ts.length ≤ 3) (hp : Tm.IsPl (lts ts) p) (hf : Fine ts) (hs : Small ts) :
    Calls Try.prog 93 #[.pointer (some ⟨R, 0, none⟩), plV p, .int .i64 c] w (GivesA w ts p c) := by
  have hpl : p.length = ts.length := by rw [hp.len]; simp [lts]
  have hql := aft_len (lts ts) p c hp.len
  have HLE := hide (fun k h => isPl_le hp k h)
  obtain ⟨r0, r1, rl⟩ := hR
  have HAT := hide (fun k h1 h2 h => aft_at ts p c k h1 h2 h)
  have HF0 := hide (fun k h1 h2 h => aftOk_false (ts := ts) (p := p) (c := c) (k := k) h1 h2 h)
  have HF1 := hide (aftOk_true (ts := ts) (p := p) (c := c) hpl)
  generalize hqd : aftPl (lts ts) p c = q at *
  have HQD := hide hqd
  clear hqd
  unfold plV
  have HPL := hide hpl
  have HQL := hide hql
  have hp3 : p.length ≤ 3 := by omega
  have h3' : (ts.length : Int) ≤ 3 := by omega
  have HP0 := hide (mixP_zero q p)
  clear hpl hql hp
  have hall : plC p = #[.int .i64 (p.getD 0 0 : Nat), .int .i64 (p.getD 1 0 : Nat), .int .i64 (p.getD 2 0 : Nat)] := rfl
  rw [hall]
  clear hall
  obtain ⟨x0, hx0⟩ : ∃ x, p.getD 0 0 = x := ⟨_, rfl⟩
  obtain ⟨x1, hx1⟩ : ∃ x, p.getD 1 0 = x := ⟨_, rfl⟩
  obtain ⟨x2, hx2⟩ : ∃ x, p.getD 2 0 = x := ⟨_, rfl⟩
  have HX := hide (plC_lit p x0 x1 x2 hx0 hx1 hx2)
  rw [hx0, hx1, hx2]
  clear hx0 hx1 hx2
  go_enter Try.func93, Try.ntmps93
  go_wp2
  go_loopw [16] (fun i wr => ∃ k : Nat, k ≤ ts.length ∧ i = .int .i64 k ∧ (∀ j, (h1 : j < ts.length) → (h2 : j < p.length) → j < k → scan (lt ts[j]) c p[j] < ts[j].size) ∧ wr.heap[w.heap.size]? = some (.cells (plC (mixP q p k)) 86 (0, 0)) ∧ wr.heap[w.heap.size + 1]? = some (.cells #[.int .i64 0, .int .i64 0, .int .i64 0] 86 (0, 0)) ∧ Below w.heap.size w wr) (fun i _ => ts.length - (intOf i).toNat)
  case atStart =>
    refine ⟨0, Nat.zero_le _, rfl, fun j _ _ h => absurd h (by omega), ?_, ?_, by (repeat (first | exact Below.refl _ _ | assumption | (refine below_gr ?_ (by (first | omega | (simp only [zz] at *; omega))) _) | (refine below_alloc ?_ (by (first | omega | (simp only [zz] at *; omega))) _) | (refine Below.setCell ?_ (by (first | omega | (simp only [zz] at *; omega))) _) | refine below_drewN ?_ _ | refine below_drew ?_ | (refine below_step ?_ (by assumption) (by (first | omega | (simp only [zz] at *; omega))))))⟩
    · rw [HP0.out, HX.out]; exact heap_a _ _ _
    · exact heap_b _ _ _
  case round =>
    obtain ⟨k, hk, rfl, hok, hO, hO2, hb⟩ := hrel
    have hsz := hb.size
    have c0 : wr.cell? ⟨R, 0, none⟩ = some (.int .i64 W) := (hb.cell (p := ⟨R, _, none⟩) rl).trans r0
    have c1 : wr.cell? ⟨R, 1, none⟩ = some (.slice A ts.length cap) := (hb.cell (p := ⟨R, _, none⟩) rl).trans r1
    have HOK := hide hok
    clear hok
    by_cases hlt : k < ts.length
    · obtain ⟨tb, tof, rfl, tl⟩ := hA.form (by omega)
      have hs0 := (hA.ext hb).at hlt
      have hkp : k < p.length := by rw [HPL.out]; exact hlt
      have hkq : k < q.length := by rw [HQL.out]; exact hkp
      have hmg := mixP_at q p k (by rw [HQL.out]) hkp
      obtain ⟨hs1, hs2⟩ := hf k hlt
      have hs8 := hs k hlt
      have hle := HLE.out k hlt
      have HK := hide (HAT.out k hlt hkp hkq)
      have HS := hide (mixP_step q p k (by rw [HQL.out]) hkp)
      have HFk := hide (HF0.out k hlt hkp)
      have HGk := hide (lt_get ts[k])
      have hpg : p.getD k 0 = p[k] := by rw [List.getD_eq_getElem?_getD, List.getElem?_eq_getElem hkp]; rfl
      rw [hpg] at hle
      have hml : (mixP q p k).length = p.length := by simp [mixP, HQL.out]; omega
      have HMM : Hid (∀ j v : Nat, (plC ((mixP q p k).set k j)).setIfInBounds k (.int .i64 (v : Nat)) = plC ((mixP q p k).set k v)) := hide (fun j v => by
        rw [plC_set _ k v (by rw [List.length_set]; omega) (by rw [List.length_set]; omega), List.set_set])
      have HMA : Hid (∀ j : Nat, (plC ((mixP q p k).set k j))[k]? = some (.int .i64 (j : Nat))) := hide (fun j => by
        rw [plC_at _ k (by omega)]
        congr 2
        rw [List.getD_eq_getElem?_getD, List.getElem?_set_self (by omega)]; rfl)
      have HM0 : Hid ((mixP q p k).set k p[k] = mixP q p k) := hide (by
        rw [← hmg]
        apply List.ext_getElem (by simp)
        intro i h1 h2
        rw [List.getElem_set]
        split
        · rename_i e; subst e; rw [List.getD_eq_getElem?_getD, List.getElem?_eq_getElem h2]; rfl
        · rfl)
      clear hmg hpg
      have HLT := hide (lt_len ts[k])
      generalize hpk : p[k] = pk at *
      generalize hsk : ts[k] = s at *
      have HQ := hide (show q[k] = scan (lt s) c pk + 1 from HK.out)
      have HPK := hide hpk
      have HSK := hide hsk
      clear hpk hsk
      have HPQ := hide (show scan (lt s) c pk = scan (lt s) c pk from rfl)
      go_wp2
      obtain ⟨wo, rfl⟩ : ∃ wo : World, wo = wr := ⟨_, rfl⟩
      go_loopw [21] (fun _ wr => ∃ j : Nat, pk ≤ j ∧ j ≤ s.size ∧ scan (lt s) c pk = scan (lt s) c j ∧ wr.heap[w.heap.size]? = some (.cells (plC ((mixP q p k).set k j)) 86 (0, 0)) ∧ wr.heap[w.heap.size + 1]? = some (.cells #[.int .i64 0, .int .i64 0, .int .i64 0] 86 (0, 0)) ∧ Below w.heap.size w wr) (fun _ wr => s.size - (intOf ((wr.cell? ⟨w.heap.size, k, none⟩).getD undef)).toNat)
      case atStart => exact ⟨pk, Nat.le_refl _, hle, rfl, by rw [HM0.out]; exact hO, hO2, hb⟩
      case round =>
        obtain ⟨j, hj1, hj2, hsc, hOj, hO2j, hbj⟩ := hrel
        have HSC := hide hsc
        clear hsc hO hO2 hb c0 c1 HM0
        have cj := obj_at hOj k _ (HMA.out j)
        have fj := obj_fz hOj k
        have hk3 : (k : Int) < 3 := by omega
        by_cases hjs : j < s.size
        · obtain ⟨ha, hb2⟩ := hs2 j hjs
          have hgj := HGk.out j hjs
          have HH : Hid (((s[j].toNat : Int) - 97 = c) → scan (lt s) c j = j) := hide (fun e => scan_hit (t := lt s) (c := c) (k := j) (by rw [lt_len]; exact hjs) (hgj.trans e))
          have HN : Hid (((s[j].toNat : Int) - 97 ≠ c) → scan (lt s) c j = scan (lt s) c (j + 1)) := hide (fun e => scan_miss (t := lt s) (c := c) (k := j) (by rw [lt_len]; exact hjs) (fun g => e (hgj.symm.trans g)))
          clear hgj
          by_cases he : (s[j].toNat : Int) - 97 = c
          · have heb : ((s[j].toNat : Int) - 97 == c) = true := by simpa using he
            have hen : ((s[j].toNat : Int) - 97 != c) = false := by simpa using he
            have HE := hide he
            clear he
            have hjne : ((j : Int) == s.size) = false := by simp; omega
            go_wp2
            refine ⟨⟨k + 1, by omega, by go_num, fun i h1 h2 h3 => ?_, ?_, ?_, Below.setCell (p := ⟨w.heap.size, k, none⟩) hbj (Nat.le_refl _) _⟩, by simp [intOf]; omega⟩
            · by_cases hik : i < k
              · exact HOK.out i h1 h2 hik
              · have : i = k := by omega
                subst this
                rw [HSK.out, HPK.out, HSC.out, HH.out HE.out]; exact hjs
            · rw [HS.out, HQ.out, HSC.out, HH.out HE.out, ← HMM.out j (j + 1)]; exact set_obj hOj k _
            · rw [Below.heap_setCell _ _ _ _ (by simp)]; exact hO2j
          · have heb : ((s[j].toNat : Int) - 97 == c) = false := by simpa using he
            have hen : ((s[j].toNat : Int) - 97 != c) = true := by simpa using he
            have HE := hide he
            clear he
            go_wp2
            refine ⟨⟨j + 1, by omega, by omega, by rw [HSC.out, HN.out HE.out], by rw [← HMM.out j (j + 1)]; exact set_obj hOj k _, by rw [Below.heap_setCell _ _ _ _ (by simp)]; exact hO2j, Below.setCell (p := ⟨w.heap.size, k, none⟩) hbj (Nat.le_refl _) _⟩, ?_⟩
            have hcn := obj_at (set_obj hOj k (.int .i64 ((j + 1 : Nat) : Int))) k (.int .i64 ((j + 1 : Nat) : Int)) (by rw [HMM.out]; exact HMA.out (j + 1))
            have hcn2 : (wr.setCell ⟨w.heap.size, k, none⟩ (.int .i64 ((j : Int) + 1))).cell? ⟨w.heap.size, k, none⟩ = some (.int .i64 ((j + 1 : Nat) : Int)) := hcn
            (try rw [hcn2]); (try rw [cj]); simp [intOf]; omega
        · have hjs2 : j = s.size := by omega
          have hjne : ((j : Int) == s.size) = true := by simp; omega
          obtain ⟨z0, z1, z2, hZ⟩ : ∃ z0 z1 z2 : Nat, plC ((mixP q p k).set k j) = #[.int .i64 (z0 : Nat), .int .i64 (z1 : Nat), .int .i64 (z2 : Nat)] := ⟨_, _, _, rfl⟩
          rw [hZ] at hOj
          have HZ := hide hZ
          clear hZ
          have HJ := hide hjs2
          clear hjs2
          have e0 := obj_at hOj 0 _ rfl
          have e1 := obj_at hOj 1 _ rfl
          have e2 := obj_at hOj 2 _ rfl
          have f0 := obj_at hO2j 0 _ rfl
          have f1 := obj_at hO2j 1 _ rfl
          have f2 := obj_at hO2j 2 _ rfl
          have g0 := obj_fz hO2j 0
          have g1 := obj_fz hO2j 1
          have g2 := obj_fz hO2j 2
          go_wp2
          have s0 := set_obj hO2j 0 (.int .i64 (z0 : Nat))
          have s1 := set_obj s0 1 (.int .i64 (z1 : Nat))
          have s2 := set_obj s1 2 (.int .i64 (z2 : Nat))
          have k0 := obj_at s2 0 (.int .i64 (z0 : Nat)) rfl
          have k1 := obj_at s2 1 (.int .i64 (z1 : Nat)) rfl
          have k2 := obj_at s2 2 (.int .i64 (z2 : Nat)) rfl
          have hF : aftOk (lts ts) p c = false := HFk.out (by rw [HSC.out, HJ.out]; exact (congrArg (scan (lt s) c) (lt_len s).symm).trans ((scan_end _ _).trans (lt_len s)))
          refine bodyPost_ret (v := .tuple #[.agg #[.int .i64 (z0 : Nat), .int .i64 (z1 : Nat), .int .i64 (z2 : Nat)], .bool false]) (by simp [results, Try.results93, go_sem, k0, k1, k2]) rfl ⟨(mixP q p k).set k j, by rw [hF]; unfold plV; rw [HZ.out], fun h => by rw [hF] at h; exact absurd h (by simp), grew_of (by (repeat (first | exact Below.refl _ _ | assumption | refine below_drewN ?_ _ | refine below_drew ?_ | refine below_gr ?_ ?_ _ | refine below_alloc ?_ ?_ _ | refine Below.setCell ?_ ?_ _ | refine below_step ?_ (by assumption) ?_ | omega | (simp only [zz] at *; omega))))⟩
    · have hkn : k = ts.length := by omega
      have hmq : mixP q p k = q := by rw [hkn, ← HPL.out]; exact mixP_all q p (by rw [HQL.out])
      rw [hmq] at hO
      have hT := HF1.out (fun j h1 h2 => HOK.out j h1 h2 (by omega))
      obtain ⟨y0, y1, y2, hY⟩ : ∃ y0 y1 y2 : Nat, plC q = #[.int .i64 (y0 : Nat), .int .i64 (y1 : Nat), .int .i64 (y2 : Nat)] := ⟨_, _, _, rfl⟩
      rw [hY] at hO
      have HY := hide hY
      have HT := hide hT
      clear hY hmq hT
      have e0 := obj_at hO 0 _ rfl
      have e1 := obj_at hO 1 _ rfl
      have e2 := obj_at hO 2 _ rfl
      have f0 := obj_at hO2 0 _ rfl
      have f1 := obj_at hO2 1 _ rfl
      have f2 := obj_at hO2 2 _ rfl
      have g0 := obj_fz hO2 0
      have g1 := obj_fz hO2 1
      have g2 := obj_fz hO2 2
      go_wp2
      have s0 := set_obj hO2 0 (.int .i64 (y0 : Nat))
      have s1 := set_obj s0 1 (.int .i64 (y1 : Nat))
      have s2 := set_obj s1 2 (.int .i64 (y2 : Nat))
      have k0 := obj_at s2 0 (.int .i64 (y0 : Nat)) rfl
      have k1 := obj_at s2 1 (.int .i64 (y1 : Nat)) rfl
      have k2 := obj_at s2 2 (.int .i64 (y2 : Nat)) rfl
      refine bodyPost_ret (v := .tuple #[.agg #[.int .i64 (y0 : Nat), .int .i64 (y1 : Nat), .int .i64 (y2 : Nat)], .bool true]) (by simp [results, Try.results93, go_sem, k0, k1, k2]) rfl ⟨q, by rw [HT.out]; unfold plV; rw [HY.out], fun _ => HQD.out.symm, grew_of (by (repeat (first | exact Below.refl _ _ | assumption | refine below_drewN ?_ _ | refine below_drew ?_ | refine below_gr ?_ ?_ _ | refine below_alloc ?_ ?_ _ | refine Below.setCell ?_ ?_ _ | refine below_step ?_ (by assumption) ?_ | omega | (simp only [zz] at *; omega))))⟩
end Go.Proofs.Ytafncmgijbkomaa
namespace Go.Proofs.Ytafncmgijbkomaa
open Go.RowKit Go.Maps
def openE (W : Int) (ts : List ByteArray) (long : Int) : Int := if chkSet W ts ≠ 0 then chkSet W ts else if withinB 0 20 [long] = false then 3 else 0
def GivesO (w : World) (W : Int) (A : Option Addr) (ts : List ByteArray) (c : Nat) (e : Ending) (w' : World) : Prop :=
  ∃ R M, e = .returned (.tuple #[.pointer (some ⟨R, 0, none⟩), .int .i64 0]) ∧ Below w.heap.size w w' ∧ w.heap.size ≤ R ∧ w.heap.size ≤ M ∧ Reel R M W A ts c w'
set_option maxRecDepth 100000 in
set_option maxHeartbeats 1000000 in
theorem open_bad (W : Int) (A : Option Addr) (ts : List ByteArray) (c : Nat) (w : World) (hA : Strs w A ts) (hl : ts.length ≤ 1000) (hsz : ∀ k, (h : k < ts.length) → ts[k].size ≤ 1000000) (long : Int) (h0 : openE W ts long ≠ 0) : Calls Try.prog 74 #[.agg #[.int .i64 W, .slice A ts.length c], .int .i64 long] w (Gives w (.tuple #[.pointer none, .int .i64 (openE W ts long)])) := by
  by_cases h1 : chkSet W ts = 0
  · have h2 : withinB 0 20 [long] = false := by
      cases h : withinB 0 20 [long] with
      | false => rfl
      | true => exact absurd (by simp [openE, h1, h]) h0
    have he : openE W ts long = 3 := by simp [openE, h1, h2]
    have h3 : (chkSet W ts != 0) = false := by simp [h1]
    rw [he]
    clear h0 he
    replace h1 := hide h1
    go_enter Try.func74, Try.ntmps74
    go_wp2_with (first
    | (go_at_call 21; refine (checkSet_any W A ts c _ (hA.ext (by (repeat (first | exact Below.refl _ _ | assumption | refine below_drewN ?_ _ | refine below_drew ?_ | refine below_gr ?_ ?_ _ | refine below_alloc ?_ ?_ _ | refine Below.setCell ?_ ?_ _ | refine below_step ?_ (by assumption) ?_ | omega | (simp only [zz] at *; omega))))) hl hsz).mono ?_; rintro e w1 ⟨rfl, hb1⟩; replace hb1 := ex_below hb1; have hz1 := hb1.size; (try simp only [zz] at hz1); have hs1 : w.heap.size < w1.heap.size := (by (first | omega | (simp only [zz] at *; omega))); have ho1 := own_cell hb1 (b := w.heap.size) (by (first | omega | (simp only [zz] at *; omega))); have hq1 := own_frozen hb1 (b := w.heap.size) (by (first | omega | (simp only [zz] at *; omega))); have hlt1 : ∀ b, b < w.heap.size → b < w1.heap.size := fun b hb => (by (first | omega | (simp only [zz] at *; omega))); have hc1 : ∀ b o, b < w.heap.size → w1.cell? ⟨b, o, none⟩ = w.cell? ⟨b, o, none⟩ := old_cell (by (repeat (first | exact Below.refl _ _ | assumption | refine below_drewN ?_ _ | refine below_drew ?_ | refine below_gr ?_ ?_ _ | refine below_alloc ?_ ?_ _ | refine Below.setCell ?_ ?_ _ | refine below_step ?_ (by assumption) ?_ | omega | (simp only [zz] at *; omega)))))
    | (go_at_call 61; refine (within_any _ _ _ [long] _ _ (i64_new _ [long] _ _ (by simp)) (by simp)).mono ?_; rintro e w1 ⟨rfl, hb1⟩; replace hb1 := ex_below hb1; have hz1 := hb1.size; (try simp only [zz] at hz1); have hs1 : w.heap.size < w1.heap.size := (by (first | omega | (simp only [zz] at *; omega))); have ho1 := own_cell hb1 (b := w.heap.size) (by (first | omega | (simp only [zz] at *; omega))); have hq1 := own_frozen hb1 (b := w.heap.size) (by (first | omega | (simp only [zz] at *; omega))); have hlt1 : ∀ b, b < w.heap.size → b < w1.heap.size := fun b hb => (by (first | omega | (simp only [zz] at *; omega))); have hc1 : ∀ b o, b < w.heap.size → w1.cell? ⟨b, o, none⟩ = w.cell? ⟨b, o, none⟩ := old_cell (by (repeat (first | exact Below.refl _ _ | assumption | refine below_drewN ?_ _ | refine below_drew ?_ | refine below_gr ?_ ?_ _ | refine below_alloc ?_ ?_ _ | refine Below.setCell ?_ ?_ _ | refine below_step ?_ (by assumption) ?_ | omega | (simp only [zz] at *; omega))))))

    go_ret2
    exact gives_of (rfl) (by (repeat (first | exact Below.refl _ _ | assumption | refine below_drewN ?_ _ | refine below_drew ?_ | refine below_gr ?_ ?_ _ | refine below_alloc ?_ ?_ _ | refine Below.setCell ?_ ?_ _ | refine below_step ?_ (by assumption) ?_ | omega | (simp only [zz] at *; omega))))
  · have he : openE W ts long = chkSet W ts := by simp [openE, h1]
    have h3 : (chkSet W ts != 0) = true := by simp [h1]
    rw [he]
    clear h0 he
    replace h1 := hide h1
    go_enter Try.func74, Try.ntmps74
    go_wp2_with (first
    | (go_at_call 21; refine (checkSet_any W A ts c _ (hA.ext (by (repeat (first | exact Below.refl _ _ | assumption | refine below_drewN ?_ _ | refine below_drew ?_ | refine below_gr ?_ ?_ _ | refine below_alloc ?_ ?_ _ | refine Below.setCell ?_ ?_ _ | refine below_step ?_ (by assumption) ?_ | omega | (simp only [zz] at *; omega))))) hl hsz).mono ?_; rintro e w1 ⟨rfl, hb1⟩; replace hb1 := ex_below hb1; have hz1 := hb1.size; (try simp only [zz] at hz1); have hs1 : w.heap.size < w1.heap.size := (by (first | omega | (simp only [zz] at *; omega))); have ho1 := own_cell hb1 (b := w.heap.size) (by (first | omega | (simp only [zz] at *; omega))); have hq1 := own_frozen hb1 (b := w.heap.size) (by (first | omega | (simp only [zz] at *; omega))); have hlt1 : ∀ b, b < w.heap.size → b < w1.heap.size := fun b hb => (by (first | omega | (simp only [zz] at *; omega))); have hc1 : ∀ b o, b < w.heap.size → w1.cell? ⟨b, o, none⟩ = w.cell? ⟨b, o, none⟩ := old_cell (by (repeat (first | exact Below.refl _ _ | assumption | refine below_drewN ?_ _ | refine below_drew ?_ | refine below_gr ?_ ?_ _ | refine below_alloc ?_ ?_ _ | refine Below.setCell ?_ ?_ _ | refine below_step ?_ (by assumption) ?_ | omega | (simp only [zz] at *; omega))))))

    go_ret2
    exact gives_of (rfl) (by (repeat (first | exact Below.refl _ _ | assumption | refine below_drewN ?_ _ | refine below_drew ?_ | refine below_gr ?_ ?_ _ | refine below_alloc ?_ ?_ _ | refine Below.setCell ?_ ?_ _ | refine below_step ?_ (by assumption) ?_ | omega | (simp only [zz] at *; omega))))
theorem open_val {W : Int} {ts : List ByteArray} {long : Int} (h : openE W ts long = 0) : chkSet W ts = 0 ∧ withinB 0 20 [long] = true := by
  unfold openE at h
  split at h
  · rename_i h1; exact absurd h h1
  · rename_i h1
    split at h
    · simp at h
    · rename_i h2; exact ⟨by simpa using h1, by simpa using h2⟩
set_option maxRecDepth 100000 in
set_option maxHeartbeats 1000000 in
theorem open_ok (W : Int) (A : Option Addr) (ts : List ByteArray) (c : Nat) (w : World) (hA : Strs w A ts) (hl : ts.length ≤ 1000) (hsz : ∀ k, (h : k < ts.length) → ts[k].size ≤ 1000000) (lg : Nat) (h0 : openE W ts (lg : Nat) = 0) : Calls Try.prog 74 #[.agg #[.int .i64 W, .slice A ts.length c], .int .i64 (lg : Nat)] w (GivesO w W A ts c) := by
  obtain ⟨h1, h2⟩ := open_val h0
  have h3 : (chkSet W ts != 0) = false := by simp [h1]
  clear h0
  replace h1 := hide h1
  go_enter Try.func74, Try.ntmps74
  go_wp2_with (first
    | (go_at_call 21; refine (checkSet_any W A ts c _ (hA.ext (by (repeat (first | exact Below.refl _ _ | assumption | refine below_drewN ?_ _ | refine below_drew ?_ | refine below_gr ?_ ?_ _ | refine below_alloc ?_ ?_ _ | refine Below.setCell ?_ ?_ _ | refine below_step ?_ (by assumption) ?_ | omega | (simp only [zz] at *; omega))))) hl hsz).mono ?_; rintro e w1 ⟨rfl, hb1⟩; replace hb1 := ex_below hb1; have hz1 := hb1.size; (try simp only [zz] at hz1); have hs1 : w.heap.size < w1.heap.size := (by (first | omega | (simp only [zz] at *; omega))); have ho1 := own_cell hb1 (b := w.heap.size) (by (first | omega | (simp only [zz] at *; omega))); have hq1 := own_frozen hb1 (b := w.heap.size) (by (first | omega | (simp only [zz] at *; omega))); have hlt1 : ∀ b, b < w.heap.size → b < w1.heap.size := fun b hb => (by (first | omega | (simp only [zz] at *; omega))); have hc1 : ∀ b o, b < w.heap.size → w1.cell? ⟨b, o, none⟩ = w.cell? ⟨b, o, none⟩ := old_cell (by (repeat (first | exact Below.refl _ _ | assumption | refine below_drewN ?_ _ | refine below_drew ?_ | refine below_gr ?_ ?_ _ | refine below_alloc ?_ ?_ _ | refine Below.setCell ?_ ?_ _ | refine below_step ?_ (by assumption) ?_ | omega | (simp only [zz] at *; omega)))))
    | (go_at_call 61; refine (within_any _ _ _ [(lg : Int)] _ _ (i64_new _ [(lg : Int)] _ _ (by simp)) (by simp)).mono ?_; rintro e w1 ⟨rfl, hb1⟩; replace hb1 := ex_below hb1; have hz1 := hb1.size; (try simp only [zz] at hz1); have hs1 : w.heap.size < w1.heap.size := (by (first | omega | (simp only [zz] at *; omega))); have ho1 := own_cell hb1 (b := w.heap.size) (by (first | omega | (simp only [zz] at *; omega))); have hq1 := own_frozen hb1 (b := w.heap.size) (by (first | omega | (simp only [zz] at *; omega))); have hlt1 : ∀ b, b < w.heap.size → b < w1.heap.size := fun b hb => (by (first | omega | (simp only [zz] at *; omega))); have hc1 : ∀ b o, b < w.heap.size → w1.cell? ⟨b, o, none⟩ = w.cell? ⟨b, o, none⟩ := old_cell (by (repeat (first | exact Below.refl _ _ | assumption | refine below_drewN ?_ _ | refine below_drew ?_ | refine below_gr ?_ ?_ _ | refine below_alloc ?_ ?_ _ | refine Below.setCell ?_ ?_ _ | refine below_step ?_ (by assumption) ?_ | omega | (simp only [zz] at *; omega)))))
    | (go_at_call 55; refine (newReel_any W A ts c _ (hA.ext (by (repeat (first | exact Below.refl _ _ | assumption | refine below_drewN ?_ _ | refine below_drew ?_ | refine below_gr ?_ ?_ _ | refine below_alloc ?_ ?_ _ | refine Below.setCell ?_ ?_ _ | refine below_step ?_ (by assumption) ?_ | omega | (simp only [zz] at *; omega)))))).mono ?_; rintro e w4 ⟨R, M, rfl, hb4, hR0, hM0, hR4⟩))

  go_ret2
  exact ⟨R, M, rfl, below_step (by (repeat (first | exact Below.refl _ _ | assumption | refine below_drewN ?_ _ | refine below_drew ?_ | refine below_gr ?_ ?_ _ | refine below_alloc ?_ ?_ _ | refine Below.setCell ?_ ?_ _ | refine below_step ?_ (by assumption) ?_ | omega | (simp only [zz] at *; omega)))) hb4 (by (first | omega | (simp only [zz]; omega) | (simp only [zz] at *; omega) | (simp; done) | (simp; omega))), by (first | omega | (simp only [zz] at *; omega)), by (first | omega | (simp only [zz] at *; omega)), hR4⟩
theorem zero_st (ts : List ByteArray) (lg : Nat) : stV (Tm.zeroP (lts ts)) lg = .agg #[.int .i64 0, .int .i64 0, .int .i64 0, .int .i64 (lg : Nat)] := by
  have : ∀ k, (Tm.zeroP (lts ts)).getD k 0 = 0 := fun k => by
    unfold Tm.zeroP
    rw [List.getD_eq_getElem?_getD, List.getElem?_map]
    cases (lts ts)[k]? <;> rfl
  unfold stV stC
  rw [this, this, this]
  rfl
theorem count_zero0 {W : Int} {ts : List ByteArray} (hc : chkSet W ts = 0) (A : Option Addr) (cap lg : Nat) (hl : lg ≤ 20) : ∀ (R M : Nat) (w : World), Reel R M W A ts cap w → Calls Try.prog 75 #[.pointer (some ⟨R, 0, none⟩), .agg #[.int .i64 0, .int .i64 0, .int .i64 0, .int .i64 (lg : Nat)]] w (GivesM w M (KMap 109 M (goodC W.toNat (lts ts))) (.int .i64 (Tm.cntC W.toNat lg (lts ts) : Nat))) := fun R M w h => by
  obtain ⟨hW1, hW2, h0, h3, hs, hf, _, _⟩ := chk_val hc
  have := count_any R M W A ts cap h3 hf hs ⟨hW1, hW2⟩ lg hl (Tm.zeroP (lts ts)) w (Tm.zero_is _) h
  rw [zero_st, Tm.rem_zero] at this
  exact this
theorem open_lg {W : Int} {ts : List ByteArray} {lg : Nat} (h : openE W ts (lg : Nat) = 0) : lg ≤ 20 := by
  have := (open_val h).2
  simp [withinB, outB] at this
  omega
/-- how many nights, or the error -/
def countR (W : Int) (ts : List ByteArray) (long : Int) : Int × Int :=
  if openE W ts long ≠ 0 then (0, openE W ts long) else if 1099511627776 < Tm.cntC W.toNat long.toNat (lts ts) then (0, 4) else ((Tm.cntC W.toNat long.toNat (lts ts) : Nat), 0)
def tup2V (q : Int × Int) : Value := .tuple #[.int .i64 q.1, .int .i64 q.2]
set_option maxRecDepth 100000 in
set_option maxHeartbeats 1000000 in
theorem Count_any (W : Int) (A : Option Addr) (ts : List ByteArray) (c : Nat) (w : World) (hA : Strs w A ts) (hl : ts.length ≤ 1000) (hsz : ∀ k, (h : k < ts.length) → ts[k].size ≤ 1000000) (long : Int) : Calls Try.prog 30 #[.agg #[.int .i64 W, .slice A ts.length c], .int .i64 long] w (Gives w (tup2V (countR W ts long))) := by
  by_cases h0 : openE W ts long = 0
  · obtain ⟨lg, rfl⟩ : ∃ lg : Nat, long = (lg : Nat) := ⟨long.toNat, by have := (open_val h0).2; simp [withinB, outB] at this; omega⟩
    have hlg := open_lg h0
    have HC := hide (count_zero0 (open_val h0).1 A c lg hlg)
    have HV := hide (show countR W ts (lg : Nat) = (if 1099511627776 < Tm.cntC W.toNat lg (lts ts) then ((0 : Int), (4 : Int)) else (((Tm.cntC W.toNat lg (lts ts) : Nat) : Int), (0 : Int))) by simp [countR, h0])
    have hcm := cntC_most W.toNat lg (lts ts)
    generalize Tm.cntC W.toNat lg (lts ts) = C at *
    by_cases hC : 1099511627776 < C
    · have hCi : (1099511627776 : Int) < (C : Nat) := by omega
      rw [HV.out, if_pos hC]
      clear hC
      unfold tup2V
      go_enter Try.func30, Try.ntmps30
      go_wp2_with (first
    | (go_at_call 74; refine (open_ok W A ts c _ (hA.ext (by (repeat (first | exact Below.refl _ _ | assumption | refine below_drewN ?_ _ | refine below_drew ?_ | refine below_gr ?_ ?_ _ | refine below_alloc ?_ ?_ _ | refine Below.setCell ?_ ?_ _ | refine below_step ?_ (by assumption) ?_ | omega | (simp only [zz] at *; omega))))) hl hsz lg h0).mono ?_; rintro e w1 ⟨R, M, rfl, hb1, hR0, hM0, hR1⟩; have hz1 := hb1.size; simp only [World.size_alloc] at hz1 hR0 hM0; have hbw1 : Below w.heap.size w w1 := below_step ((Below.refl _ w).alloc (Nat.le_refl _) _) hb1 (by simp only [World.size_alloc]; omega); clear hb1)
    | (go_at_call 75; refine (HC.out R M _ hR1).mono ?_; rintro e w2 ⟨rfl, hg2, hk2⟩; have hz2 := hg2.size; have hR2 := hR1.grown hg2 hk2; have hb12 : Below w.heap.size w w2 := gb_below hbw1 hg2 (by omega) (fun k hk => by have := Option.some.inj hk; omega)))

      go_ret2
      exact ⟨rfl, below_grow hb12⟩
    · have hCi : ¬ ((1099511627776 : Int) < (C : Nat)) := by omega
      rw [HV.out, if_neg hC]
      clear hC
      unfold tup2V
      go_enter Try.func30, Try.ntmps30
      go_wp2_with (first
    | (go_at_call 74; refine (open_ok W A ts c _ (hA.ext (by (repeat (first | exact Below.refl _ _ | assumption | refine below_drewN ?_ _ | refine below_drew ?_ | refine below_gr ?_ ?_ _ | refine below_alloc ?_ ?_ _ | refine Below.setCell ?_ ?_ _ | refine below_step ?_ (by assumption) ?_ | omega | (simp only [zz] at *; omega))))) hl hsz lg h0).mono ?_; rintro e w1 ⟨R, M, rfl, hb1, hR0, hM0, hR1⟩; have hz1 := hb1.size; simp only [World.size_alloc] at hz1 hR0 hM0; have hbw1 : Below w.heap.size w w1 := below_step ((Below.refl _ w).alloc (Nat.le_refl _) _) hb1 (by simp only [World.size_alloc]; omega); clear hb1)
    | (go_at_call 75; refine (HC.out R M _ hR1).mono ?_; rintro e w2 ⟨rfl, hg2, hk2⟩; have hz2 := hg2.size; have hR2 := hR1.grown hg2 hk2; have hb12 : Below w.heap.size w w2 := gb_below hbw1 hg2 (by omega) (fun k hk => by have := Option.some.inj hk; omega)))

      go_ret2
      exact ⟨rfl, below_grow hb12⟩
  · have HV := hide (show countR W ts long = (0, openE W ts long) by simp [countR, h0])
    have h1 : (openE W ts long != 0) = true := by simp [h0]
    rw [HV.out]
    unfold tup2V
    go_enter Try.func30, Try.ntmps30
    go_wp2_with (first
    | (go_at_call 74; refine (open_bad W A ts c _ (hA.ext (by (repeat (first | exact Below.refl _ _ | assumption | refine below_drewN ?_ _ | refine below_drew ?_ | refine below_gr ?_ ?_ _ | refine below_alloc ?_ ?_ _ | refine Below.setCell ?_ ?_ _ | refine below_step ?_ (by assumption) ?_ | omega | (simp only [zz] at *; omega))))) hl hsz long h0).mono ?_; rintro e w1 ⟨rfl, hb1⟩; replace hb1 := ex_below hb1; have hz1 := hb1.size; (try simp only [zz] at hz1); have hs1 : w.heap.size < w1.heap.size := (by (first | omega | (simp only [zz] at *; omega))); have ho1 := own_cell hb1 (b := w.heap.size) (by (first | omega | (simp only [zz] at *; omega))); have hq1 := own_frozen hb1 (b := w.heap.size) (by (first | omega | (simp only [zz] at *; omega))); have hlt1 : ∀ b, b < w.heap.size → b < w1.heap.size := fun b hb => (by (first | omega | (simp only [zz] at *; omega))); have hc1 : ∀ b o, b < w.heap.size → w1.cell? ⟨b, o, none⟩ = w.cell? ⟨b, o, none⟩ := old_cell (by (repeat (first | exact Below.refl _ _ | assumption | refine below_drewN ?_ _ | refine below_drew ?_ | refine below_gr ?_ ?_ _ | refine below_alloc ?_ ?_ _ | refine Below.setCell ?_ ?_ _ | refine below_step ?_ (by assumption) ?_ | omega | (simp only [zz] at *; omega))))))

    go_ret2
    exact gives_of (rfl) (by (repeat (first | exact Below.refl _ _ | assumption | refine below_drewN ?_ _ | refine below_drew ?_ | refine below_gr ?_ ?_ _ | refine below_alloc ?_ ?_ _ | refine Below.setCell ?_ ?_ _ | refine below_step ?_ (by assumption) ?_ | omega | (simp only [zz] at *; omega))))
end Go.Proofs.Ytafncmgijbkomaa

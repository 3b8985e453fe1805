/- Proved here: the night of an index; worlds of two maps; the least and the greatest, a part of the proofs about the tape laws. Conditions: those that each theorem names, no others. -/
import Derived.Test.YtafncmgijbkomaaP35
import Derived.WalkKit
import Derived.WalkSpells
import Derived.WalkLawsBesides
import Derived.Below
import Derived.Deep.QuietTactic
import Derived.BigQuiet
import Derived.Deep.Light
import Derived.Test.YtafncmgijbkomaaP33
import Derived.Test.YtafncmgijbkomaaP32
import Derived.Deep.RegionHeld3
import Derived.Deep.DeepCutAuto
import Derived.Deep.CutBlock
set_option linter.unusedSimpArgs false
set_option linter.unusedVariables false
namespace Go.Proofs.Ytafncmgijbkomaa
open Go.RowKit Go.Maps
theorem und57 : Try.prog.underlying 57 = some (.slice 5) := by kernel_rfl
theorem und5 : Try.prog.underlying 5 = some (.int .u8) := by kernel_rfl
theorem und9 : Try.prog.underlying 9 = some .string := by kernel_rfl
theorem infoB : (Try.prog.info? 5).map (fun i => (i.zero, i.size, i.bytes)) = some (some (.int .u8 0), 1, 1) := by kernel_rfl
theorem rd_new1 (w : World) (v : Value) (t : TypeId) : Rd (w.alloc (.cells #[v] t)) 1 (some ⟨w.heap.size, 0, none⟩) 1 [v] := by
  refine ⟨rfl, fun _ => ⟨_, 0, rfl, by simp, fun j u hu => ?_⟩⟩
  rw [World.cell?_alloc_at _ _ _ _ rfl, Nat.zero_add]
  simpa using hu
theorem slice_full {P : Program} (t e : TypeId) (i : TypeInfo) (ht : P.underlying t = some (.slice e)) (hi : P.info? e = some i) (A : Option Addr) (k c : Nat) (hk : k ≤ c) (w : World) :
    (Instr.sliceAt t (.slice A k c) none (some (.int .i64 (k : Int))) (some (.int .i64 (k : Int)))).run P w = .ok (.slice A k k) w := by
  have h2 : (fun a : Addr => a.add 0) = id := by funext a; simp [Addr.add]
  have h3 : A.map (fun a => a.add 0) = A := by rw [h2]; simp
  simp [Instr.sliceAt, run_underlying ht, Instr.slice, Instr.sliceBounds, Instr.sliceBound, asIntOf, sizeOf, typeInfo, hi, hk, h3]
/-- a letter, as a byte -/
def unb (x : Int) : UInt8 := UInt8.ofNat (x + 97).toNat
def unlt (l : List Int) : ByteArray := ⟨(l.map unb).toArray⟩
theorem unb_val {x : Int} (h : 0 ≤ x ∧ x < 5) : ((unb x).toNat : Int) = x + 97 := by
  unfold unb
  rw [UInt8.toNat_ofNat_of_lt' (by simp [UInt8.size]; omega)]
  omega
theorem lt_unlt {l : List Int} (h : ∀ x, x ∈ l → 0 ≤ x ∧ x < 5) : lt (unlt l) = l := by
  unfold lt unlt
  simp only [List.map_map]
  conv => rhs; rw [← List.map_id l]
  apply List.map_congr_left
  intro x hx
  have := unb_val (h x hx)
  simp only [Function.comp, id]
  omega
theorem unlt_size (l : List Int) : (unlt l).size = l.length := by unfold unlt; simp [ByteArray.size]
def byteC (x : Int) : Value := .int .u8 (x + 97)
theorem one_bytes (xs : List Int) : ∀ u ∈ xs.map byteC, u.oneCell' = true := by
  intro u hu
  obtain ⟨x, _, rfl⟩ := List.mem_map.1 hu
  rfl
theorem back_bytes {W : World} {A : Option Addr} {c : Nat} {l : List Int} (hr : Rd W 1 A l.length (l.map byteC)) (hl : ∀ x, x ∈ l → 0 ≤ x ∧ x < 5) (hz : l = [] → A = none ∧ c = 0) : (convert 57 9 (.slice A l.length c)).run Try.prog W = .ok (.string (unlt l)) W := by
  cases l with
  | nil =>
    obtain ⟨rfl, rfl⟩ := hz rfl
    exact run_convert_bytes_string W 57 9 5 none 0 0 und57 und5 und9
  | cons x l =>
    obtain ⟨b, off, rfl, hb, hc⟩ := hr.2 (by simp)
    have := run_convert_bytes_back (P := Try.prog) W 57 9 5 ⟨b, off, none⟩ c ((x :: l).map unb) und57 und5 und9 (fun j hj => by
      have hj' : j < (x :: l).length := by simpa using hj
      have h1 := hc j _ (by rw [List.getElem?_map, List.getElem?_eq_getElem hj']; rfl)
      rw [add_none, h1, List.getElem_map]
      unfold byteC
      rw [unb_val (hl _ (List.getElem_mem hj'))])
    simpa [unlt] using this
theorem rd_grown {w w' : World} {size m : Nat} {A : Option Addr} {news : List Value} {row : Option Nat} (h : Rd w size A m news) (hg : w.grownBy w' row) (hne : ∀ b o, A = some ⟨b, o, none⟩ → row ≠ some b) : Rd w' size A m news := by
  refine ⟨h.1, fun h0 => ?_⟩
  obtain ⟨b, off, hA, hb, hc⟩ := h.2 h0
  refine ⟨b, off, hA, Nat.lt_of_lt_of_le hb hg.size, fun j u hu => ?_⟩
  exact (gb_cell hg b hb (fun k hk e => hne b off hA (by rw [hk, e])) _).trans (hc j u hu)
theorem goA_step (f : Nat → Nat) (g : Nat → Nat → List Int) (c k i : Nat) : Tm.nightA.goA f g c (k + 1) i = if i < f c then ((c : Nat) : Int) :: g c i else Tm.nightA.goA f g (c + 1) k (i - f c) := rfl
theorem set_four {W : World} {B : Nat} {t : TypeId} {a b c d e f g h : Value} (hh : W.heap[B]? = some (.cells #[a, b, c, d] t (0, 0))) : ((((W.setCell ⟨B, 0, none⟩ e).setCell ⟨B, 1, none⟩ f).setCell ⟨B, 2, none⟩ g).setCell ⟨B, 3, none⟩ h).heap[B]? = some (.cells #[e, f, g, h] t (0, 0)) :=
  set_obj (set_obj (set_obj (set_obj hh 0 _) 1 _) 2 _) 3 _
def lenOf (v : Value) : Nat := match v with | .slice _ n _ => n | _ => 0
theorem sum_le (l : List Nat) (g : Nat → Nat) (m : Nat) (h : ∀ e, g e ≤ m) : (l.map g).sum ≤ l.length * m := by
  induction l with
  | nil => simp
  | cons a l ih => rw [List.map_cons, List.sum_cons, List.length_cons, Nat.add_mul]; have := h a; omega
theorem rd_setCell {w : World} {size m : Nat} {A : Option Addr} {news : List Value} (h : Rd w size A m news) (a : Addr) (v : Value) (hne : ∀ b o, A = some ⟨b, o, none⟩ → b ≠ a.block) : Rd (w.setCell a v) size A m news := by
  refine ⟨h.1, fun h0 => ?_⟩
  obtain ⟨b, off, hA, hb, hc⟩ := h.2 h0
  refine ⟨b, off, hA, by simpa using hb, fun j u hu => ?_⟩
  exact (World.cell?_of_block (a := ⟨b, off + j, none⟩) (Below.heap_setCell _ _ _ _ (hne b off hA))).trans (hc j u hu)
theorem grown_set {w w' : World} {row : Option Nat} (h : w.grownBy w' row) (a : Addr) (ha : w.heap.size ≤ a.block) (v : Value) : w.grownBy (w'.setCell a v) row :=
  ⟨h.1, h.2, h.3, by simpa using h.size, fun k hk hne => (Below.heap_setCell _ _ _ _ (by omega)).trans (h.block k hk hne)⟩
theorem KMap.setCell {k : TypeId} {b : Nat} {good : Value → Value → Prop} {w : World} (h : KMap k b good w) (a : Addr) (ha : b ≠ a.block) (v : Value) : KMap k b good (w.setCell a v) := by
  obtain ⟨l, h, hl⟩ := h
  exact ⟨l, h.setCell ha v, hl⟩
def restC (f : Nat → Nat) (W c : Nat) : Nat := ((List.range (W - c)).map (fun e => f (c + e))).sum
theorem restC_step (f : Nat → Nat) (W c : Nat) (h : c < W) : restC f W c = f c + restC f W (c + 1) := by
  unfold restC
  rw [show W - c = (W - (c + 1)) + 1 by omega, List.range_succ_eq_map]
  simp only [List.map_cons, List.map_map, List.sum_cons, Nat.add_zero]
  congr 2
  apply List.map_congr_left
  intro e _
  simp only [Function.comp]
  congr 1; omega
theorem restC_end (f : Nat → Nat) (W : Nat) : restC f W W = 0 := by simp [restC]
theorem restC_zero (W l : Nat) (ts : List (List Int)) : restC (fun c => Tm.cntC W l (Tm.behs ((c : Nat) : Int) ts)) W 0 = psumC W l ts W := by simp [restC, psumC]
set_option maxRecDepth 100000 in
set_option maxHeartbeats 1000000 in
theorem night_any (R M : Nat) (W : Int) (A : Option Addr) (ts : List ByteArray) (cap : Nat) (h3 : ts.length ≤ 3) (hf : Fine ts) (hs : Small ts) (hW : 1 ≤ W ∧ W ≤ 5) (long index : Nat) (hlong : long ≤ 20) (hidx : index < Tm.cntC W.toNat long (lts ts)) (w : World) (hR : Reel R M W A ts cap w) :
    Calls Try.prog 78 #[.pointer (some ⟨R, 0, none⟩), .int .i64 (long : Nat), .int .i64 (index : Nat)] w (GivesM w M (KMap 109 M (goodC W.toNat (lts ts))) (.string (unlt (Tm.nightA W.toNat long (lts ts) index)))) := by
  obtain ⟨i0, ih, iz, is, ib⟩ := info_parts infoB
  obtain ⟨hW1, hW2⟩ := hW
  have hMlt := hR.lt.2
  have hRlt := hR.lt.1
  have hRM := hR.ne
  have hlt3 : (lts ts).length ≤ 3 := by simpa [lts] using h3
  have hrem0 := Tm.rem_zero (lts ts)
  have hz0 := Tm.zero_is (lts ts)
  obtain ⟨T, hT⟩ : ∃ T, Tm.nightA W.toNat long (lts ts) index = T := ⟨_, rfl⟩
  have hst0 : stC (Tm.zeroP (lts ts)) long = #[.int .i64 0, .int .i64 0, .int .i64 0, .int .i64 (long : Nat)] := by
    have : ∀ k, (Tm.zeroP (lts ts)).getD k 0 = 0 := fun k => by
      unfold Tm.zeroP
      rw [List.getD_eq_getElem?_getD, List.getElem?_map]
      cases (lts ts)[k]? <;> rfl
    unfold stC
    rw [this, this, this]
    rfl
  have HNX : Hid (∀ (p : List Nat) (c : Nat) (w' : World), Tm.IsPl (lts ts) p → Reel R M W A ts cap w' → Calls Try.prog 56 #[.pointer (some ⟨R, 0, none⟩), plV p, .int .i64 (c : Nat)] w' (Gives w' (plV (Tm.nextP (lts ts) p (c : Nat))))) := hide (fun p c w' hp h => next_any R W A ts cap p (c : Nat) w' h.rat h.str h3 hp hf)
  have HCN : Hid (∀ (l : Nat) (q : List Nat) (w' : World), l ≤ 20 → Tm.IsPl (lts ts) q → Reel R M W A ts cap w' → Calls Try.prog 75 #[.pointer (some ⟨R, 0, none⟩), stV q l] w' (GivesM w' M (KMap 109 M (goodC W.toNat (lts ts))) (.int .i64 (Tm.cntC W.toNat l (Tm.remP (lts ts) q) : Nat)))) := hide (fun l q w' hl hq h => count_any R M W A ts cap h3 hf hs ⟨hW1, hW2⟩ l hl q w' hq h)
  have HST0 := hide hst0
  have HT := hide hT
  have HREM := hide hrem0
  have HZ := hide hz0
  have HID := hide hidx
  rw [hT]
  clear hst0 hrem0 hz0 hidx hT
  go_enter Try.func78, Try.ntmps78
  go_wp2
  go_loopw [2, 8] (fun ix ou wr => ∃ (pre : List Int) (p : List Nat) (l idx : Nat) (Ao : Option Addr) (co : Nat), ix = .int .i64 (idx : Nat) ∧ ou = .slice Ao pre.length co ∧ pre.length ≤ co ∧ Rd wr 1 Ao pre.length (pre.map byteC) ∧ (∀ b o, Ao = some ⟨b, o, none⟩ → w.heap.size < b) ∧ (pre = [] → Ao = none ∧ co = 0) ∧ (∀ x, x ∈ pre → 0 ≤ x ∧ x < 5)
      ∧ wr.heap[w.heap.size]? = some (.cells (stC p l) 109 (0, 0)) ∧ Tm.IsPl (lts ts) p ∧ l + pre.length = long ∧ idx < Tm.cntC W.toNat l (Tm.remP (lts ts) p) ∧ pre ++ Tm.nightA W.toNat l (Tm.remP (lts ts) p) idx = T ∧ w.grownBy wr (some M) ∧ Reel R M W A ts cap wr) (fun _ ou _ => 21 - lenOf ou)
  case atStart =>
    refine ⟨[], _, long, index, none, 0, rfl, rfl, Nat.le_refl _, ⟨rfl, fun h => absurd h (by simp)⟩, by simp, fun _ => ⟨rfl, rfl⟩, by simp, ?_, HZ.out, rfl, by rw [HREM.out]; exact HID.out, by rw [HREM.out]; exact HT.out, grown_none (below_grown (by (repeat (first | exact Below.refl _ _ | assumption | refine below_drewN ?_ _ | refine below_drew ?_ | refine below_gr ?_ ?_ _ | refine below_alloc ?_ ?_ _ | refine Below.setCell ?_ ?_ _ | refine below_step ?_ (by assumption) ?_ | omega | (simp only [zz] at *; omega))))), hR.below (by (repeat (first | exact Below.refl _ _ | assumption | refine below_drewN ?_ _ | refine below_drew ?_ | refine below_gr ?_ ?_ _ | refine below_alloc ?_ ?_ _ | refine Below.setCell ?_ ?_ _ | refine below_step ?_ (by assumption) ?_ | omega | (simp only [zz] at *; omega))))⟩
    rw [HST0.out]; exact heap_alloc_new _ _
  case round =>
    obtain ⟨pre, p, l, idx, Ao, co, rfl, rfl, hco, hrd, hAo, hnil, hlet, hbx, hp, hll, hix, hpre, hgr, hRr⟩ := hrel
    have hzr := hgr.size
    have hbl := (Array.getElem?_eq_some_iff.1 hbx).1
    have hbne : w.heap.size ≠ M := by omega
    have q0 := hRr.rat.1
    have hMr := hRr.lt.2
    have hRlr := hRr.lt.1
    have b3 := obj_at hbx 3 (.int .i64 (l : Nat)) rfl
    cases l with
    | zero =>
      have hback := back_bytes hrd hlet hnil
      have hpT : pre = T := by rw [← hpre]; simp [Tm.nightA]
      rw [hpT] at hback
      clear hpre
      go_wp2
      go_ret
      exact ⟨rfl, hgr, hRr.km⟩
    | succ l =>
      obtain ⟨L, hL⟩ : ∃ L : Int, ((l + 1 : Nat) : Int) = L := ⟨_, rfl⟩
      have hL1 : L - 1 = (l : Int) := by omega
      have hL2 : 1 ≤ L ∧ L ≤ 20 := by omega
      have hLd : decide (0 < L) = true := by simp; omega
      obtain ⟨x0, HX0⟩ : ∃ x : Nat, Hid (p.getD 0 0 = x) := ⟨_, hide rfl⟩
      obtain ⟨x1, HX1⟩ : ∃ x : Nat, Hid (p.getD 1 0 = x) := ⟨_, hide rfl⟩
      obtain ⟨x2, HX2⟩ : ∃ x : Nat, Hid (p.getD 2 0 = x) := ⟨_, hide rfl⟩
      have hst : stC p (l + 1) = #[.int .i64 (x0 : Nat), .int .i64 (x1 : Nat), .int .i64 (x2 : Nat), .int .i64 L] := by
        unfold stC; rw [HX0.out, HX1.out, HX2.out, hL]
      have hplv : plV p = .agg #[.int .i64 (x0 : Nat), .int .i64 (x1 : Nat), .int .i64 (x2 : Nat)] := by unfold plV plC; rw [HX0.out, HX1.out, HX2.out]
      rw [hst] at hbx
      rw [hL] at b3
      have b0 := obj_at hbx 0 _ rfl
      have b1 := obj_at hbx 1 _ rfl
      have b2 := obj_at hbx 2 _ rfl
      have g0 := obj_fz hbx 0
      have g1 := obj_fz hbx 1
      have g2 := obj_fz hbx 2
      have g3 := obj_fz hbx 3
      have HN : Hid (∀ (c : Nat) (w' : World), Reel R M W A ts cap w' → Calls Try.prog 56 #[.pointer (some ⟨R, 0, none⟩), .agg #[.int .i64 (x0 : Nat), .int .i64 (x1 : Nat), .int .i64 (x2 : Nat)], .int .i64 (c : Nat)] w' (Gives w' (.agg #[.int .i64 ((Tm.nextP (lts ts) p (c : Nat)).getD 0 0 : Nat), .int .i64 ((Tm.nextP (lts ts) p (c : Nat)).getD 1 0 : Nat), .int .i64 ((Tm.nextP (lts ts) p (c : Nat)).getD 2 0 : Nat)]))) := hide (fun c w' h => by
        have := HNX.out p c w' hp h; rw [hplv] at this; exact this)
      have HC : Hid (∀ (c : Nat) (w' : World), Reel R M W A ts cap w' → Calls Try.prog 75 #[.pointer (some ⟨R, 0, none⟩), .agg #[.int .i64 ((Tm.nextP (lts ts) p (c : Nat)).getD 0 0 : Nat), .int .i64 ((Tm.nextP (lts ts) p (c : Nat)).getD 1 0 : Nat), .int .i64 ((Tm.nextP (lts ts) p (c : Nat)).getD 2 0 : Nat), .int .i64 (l : Nat)]] w' (GivesM w' M (KMap 109 M (goodC W.toNat (lts ts))) (.int .i64 (Tm.cntC W.toNat l (Tm.behs ((c : Nat) : Int) (Tm.remP (lts ts) p)) : Nat)))) := hide (fun c w' h => by
        have := HCN.out l (Tm.nextP (lts ts) p (c : Nat)) w' (by omega) (Tm.next_is hp _) h
        rw [Tm.rem_next] at this
        exact this)
      have HNI : Hid (∀ c : Nat, Tm.IsPl (lts ts) (Tm.nextP (lts ts) p (c : Nat)) ∧ Tm.remP (lts ts) (Tm.nextP (lts ts) p (c : Nat)) = Tm.behs ((c : Nat) : Int) (Tm.remP (lts ts) p)) := hide (fun c => ⟨Tm.next_is hp _, Tm.rem_next _ _ _⟩)
      have hr0 : idx < restC (fun c => Tm.cntC W.toNat l (Tm.behs ((c : Nat) : Int) (Tm.remP (lts ts) p))) W.toNat 0 := by
        rw [restC_zero]; rw [cntC_psum] at hix; omega
      have HG0 := hide (show Tm.nightA W.toNat (l + 1) (Tm.remP (lts ts) p) idx = Tm.nightA.goA (fun c => Tm.cntC W.toNat l (Tm.behs ((c : Nat) : Int) (Tm.remP (lts ts) p))) (fun c j => Tm.nightA W.toNat l (Tm.behs ((c : Nat) : Int) (Tm.remP (lts ts) p)) j) 0 W.toNat idx from rfl)
      have HP := hide hpre
      have HRM := hide hrd
      clear hst hplv hpre hix hrd HX0 HX1 HX2
      generalize hf0 : (fun c : Nat => Tm.cntC W.toNat l (Tm.behs ((c : Nat) : Int) (Tm.remP (lts ts) p))) = f at *
      generalize hgf0 : (fun (c : Nat) (j : Nat) => Tm.nightA W.toNat l (Tm.behs ((c : Nat) : Int) (Tm.remP (lts ts) p)) j) = gf at *
      have HF := hide hf0
      have HGF := hide hgf0
      clear hf0 hgf0
      go_wp2
      obtain ⟨wo, rfl⟩ : ∃ wo : World, wo = wr := ⟨_, rfl⟩
      go_loopw [2, 8, 22] (fun ix ou i wr => ∃ (c id : Nat), ou = .slice Ao pre.length co ∧ c ≤ W.toNat ∧ i = .int .i64 (c : Nat) ∧ ix = .int .i64 (id : Nat) ∧ id < restC f W.toNat c ∧ Tm.nightA.goA f gf c (W.toNat - c) id = Tm.nightA W.toNat (l + 1) (Tm.remP (lts ts) p) idx ∧ wo.grownBy wr (some M) ∧ Reel R M W A ts cap wr) (fun _ _ i _ => W.toNat - (intOf i).toNat)
      case atStart => exact ⟨0, idx, rfl, Nat.zero_le _, rfl, rfl, hr0, HG0.out.symm, ⟨rfl, rfl, rfl, Nat.le_refl _, fun _ _ _ => rfl⟩, hRr⟩
      case round =>
        obtain ⟨c, id, rfl, hc, rfl, rfl, hid, hgo, hgr2, hRr2⟩ := hrel
        have hz2 := hgr2.size
        have hbx2 : wr.heap[w.heap.size]? = some (.cells #[.int .i64 (x0 : Nat), .int .i64 (x1 : Nat), .int .i64 (x2 : Nat), .int .i64 L] 109 (0, 0)) := (hgr2.block _ hbl (by simpa using hbne)).trans hbx
        clear b0 b1 b2 b3 g0 g1 g2 g3 q0
        have b0 := obj_at hbx2 0 _ rfl
        have b1 := obj_at hbx2 1 _ rfl
        have b2 := obj_at hbx2 2 _ rfl
        have b3 := obj_at hbx2 3 _ rfl
        have g0 := obj_fz hbx2 0
        have g1 := obj_fz hbx2 1
        have g2 := obj_fz hbx2 2
        have g3 := obj_fz hbx2 3
        have hbl2 := (Array.getElem?_eq_some_iff.1 hbx2).1
        have hMr2 := hRr2.lt.2
        have q0 := hRr2.rat.1
        by_cases hlt : c < W.toNat
        · have hrs := restC_step f W.toNat c hlt
          have hgs := goA_step f gf c (W.toNat - (c + 1)) id
          rw [show W.toNat - (c + 1) + 1 = W.toNat - c by omega, hgo] at hgs
          rw [hrs] at hid
          have hfc : Tm.cntC W.toNat l (Tm.behs ((c : Nat) : Int) (Tm.remP (lts ts) p)) = f c := congrFun HF.out c
          have hgc : ∀ j, Tm.nightA W.toNat l (Tm.behs ((c : Nat) : Int) (Tm.remP (lts ts) p)) j = gf c j := fun j => congrFun (congrFun HGF.out c) j
          have HNc := hide (HN.out c)
          have HCc := HC.out c
          rw [hfc] at HCc
          have HCc := hide HCc
          have hfm : f c ≤ 1099511627777 := by rw [← hfc]; exact cntC_most _ _ _
          have hfall : ∀ e, f e ≤ 1099511627777 := fun e => by rw [← congrFun HF.out e]; exact cntC_most _ _ _
          have HFC := hide hfc
          have HGC := hide hgc
          have HGS := hide hgs
          have HGO := hide hgo
          clear hfc hgc hgs hgo hrs
          have hlit : Hid (∀ q, q = Tm.nextP (lts ts) p (c : Nat) → stC q l = #[.int .i64 (q.getD 0 0 : Nat), .int .i64 (q.getD 1 0 : Nat), .int .i64 (q.getD 2 0 : Nat), .int .i64 (l : Nat)]) := hide (fun q _ => rfl)
          have HNIc := hide (HNI.out c)
          generalize hq : Tm.nextP (lts ts) p (c : Nat) = q at *
          have HSQ := hide (hlit.out q rfl)
          clear hlit hq
          generalize q.getD 0 0 = y0 at *
          generalize q.getD 1 0 = y1 at *
          generalize q.getD 2 0 = y2 at *
          have hco5 : c < 5 := by omega
          have hidm : id ≤ 5497558138885 := by
            have h5 := sum_le (List.range (W.toNat - (c + 1))) (fun e => f (c + 1 + e)) 1099511627777 (fun e => hfall _)
            have h6 : restC f W.toNat (c + 1) ≤ (W.toNat - (c + 1)) * 1099511627777 := by simpa [restC] using h5
            omega
          have hpl20 : pre.length ≤ 20 := by omega
          have n1 : wr.heap.size ≠ w.heap.size := by omega
          have hlw : IntKind.i64.wrap (l : Int) = (l : Int) := IntWalk.i64_in _ (by omega)
          go_upto_region 7 with fail
          go_cut [10] (fun sx wx => ∃ blk : Nat, sx = .pointer (some ⟨blk, 0, none⟩) ∧ wx.heap[blk]? = some (.cells #[.int .i64 (y0 : Nat), .int .i64 (y1 : Nat), .int .i64 (y2 : Nat), .int .i64 (l : Nat)] 109 (0, 0)) ∧ wr.heap.size ≤ blk ∧ Below wr.heap.size wr wx)
          case first =>
            as_aux_lemma =>
            go_region_held3 (fun w' => w'.cell? ⟨w.heap.size, 0, none⟩ = some (.int .i64 (x0 : Nat)) ∧ w'.cell? ⟨w.heap.size, 1, none⟩ = some (.int .i64 (x1 : Nat)) ∧ w'.cell? ⟨w.heap.size, 2, none⟩ = some (.int .i64 (x2 : Nat)) ∧ w'.cell? ⟨w.heap.size, 3, none⟩ = some (.int .i64 L)) (go_keep) (first
              | (go_at_call 56; refine (HNc.out _ (hRr2.below (by (repeat (first | exact Below.refl _ _ | assumption | refine below_drewN ?_ _ | refine below_drew ?_ | refine below_gr ?_ ?_ _ | refine below_alloc ?_ ?_ _ | refine Below.setCell ?_ ?_ _ | refine below_step ?_ (by assumption) ?_ | omega | (simp only [zz] at *; omega)))))).mono ?_; rintro e w3 ⟨rfl, hb3⟩; replace hb3 := ex_below hb3; have hz3 := hb3.size; (try simp only [World.size_alloc, size_drew, size_drewN] at hz3); have hc3 := own_cell hb3 (b := w.heap.size) (by (first | omega | (simp only [zz]; omega) | (simp only [zz] at *; omega) | (simp; done) | (simp; omega))); have hbw3 : Below wr.heap.size wr w3 := (by (repeat (first | exact Below.refl _ _ | assumption | refine below_drewN ?_ _ | refine below_drew ?_ | refine below_gr ?_ ?_ _ | refine below_alloc ?_ ?_ _ | refine Below.setCell ?_ ?_ _ | refine below_step ?_ (by assumption) ?_ | omega | (simp only [zz] at *; omega)))); have n3 : w3.heap.size ≠ w.heap.size := (by omega); (try have hf3 := own_frozen hb3 (b := wr.heap.size) (by (first | omega | (simp only [zz]; omega) | (simp only [zz] at *; omega) | (simp; done) | (simp; omega)))); (try have hd3 := own_cell hb3 (b := wr.heap.size) (by (first | omega | (simp only [zz]; omega) | (simp only [zz] at *; omega) | (simp; done) | (simp; omega))))))
            · go_wp2_with fail
              go_meet
              exact ⟨_, rfl, heap_alloc_new _ _, by (first | omega | (simp only [zz]; omega) | (simp only [zz] at *; omega) | (simp; done) | (simp; omega)), by (repeat (first | exact Below.refl _ _ | assumption | (refine below_gr ?_ (by (first | omega | (simp only [zz] at *; omega))) _) | (refine below_alloc ?_ (by (first | omega | (simp only [zz] at *; omega))) _) | (refine Below.setCell ?_ (by (first | omega | (simp only [zz] at *; omega))) _) | refine below_drewN ?_ _ | refine below_drew ?_ | (refine below_step ?_ (by assumption) (by (first | omega | (simp only [zz] at *; omega))))))⟩
            · go_wp2_with fail
              go_meet
              exact ⟨_, rfl, set_four ((hb3.block wr.heap.size (by (first | omega | (simp only [zz]; omega) | (simp only [zz] at *; omega) | (simp; done) | (simp; omega)))).trans (heap_alloc_new wr.drew _)), Nat.le_refl _, by (repeat (first | exact Below.refl _ _ | assumption | (refine below_gr ?_ (by (first | omega | (simp only [zz] at *; omega))) _) | (refine below_alloc ?_ (by (first | omega | (simp only [zz] at *; omega))) _) | (refine Below.setCell ?_ (by (first | omega | (simp only [zz] at *; omega))) _) | refine below_drewN ?_ _ | refine below_drew ?_ | (refine below_step ?_ (by assumption) (by (first | omega | (simp only [zz] at *; omega))))))⟩
          case rest =>
            obtain ⟨blk, rfl, hto3, hblk, hb3⟩ := hcut
            have htl := (Array.getElem?_eq_some_iff.1 hto3).1
            have hzc := hb3.size
            have k0 := obj_at hto3 0 _ rfl
            have k1 := obj_at hto3 1 _ rfl
            have k2 := obj_at hto3 2 _ rfl
            have k3 := obj_at hto3 3 _ rfl
            have hsl := fun W' : World => slice_full (P := Try.prog) 57 5 i0 und57 ih Ao pre.length co hco W'
            clear hfall
            by_cases hic : id < f c
            · have hicI : (id : Int) < (f c : Nat) := by omega
              go_wp2_with (first
                | (go_at_call 75; refine (HCc.out _ (hRr2.below (by (repeat (first | exact Below.refl _ _ | assumption | refine below_drewN ?_ _ | refine below_drew ?_ | refine below_gr ?_ ?_ _ | refine below_alloc ?_ ?_ _ | refine Below.setCell ?_ ?_ _ | refine below_step ?_ (by assumption) ?_ | omega | (simp only [zz] at *; omega)))))).mono ?_; rintro e w4 ⟨rfl, hg4, hk4⟩; have hz4 := hg4.size; have hto4 : w4.heap[blk]? = some (.cells #[.int .i64 (y0 : Nat), .int .i64 (y1 : Nat), .int .i64 (y2 : Nat), .int .i64 (l : Nat)] 109 (0, 0)) := (hg4.block _ htl (by simp; omega)).trans hto3; have hga4 : wr.grownBy w4 (some M) := grown_trans (grown_none (below_grown hb3)) hg4; have hR4 : Reel R M W A ts cap w4 := hRr2.grown hga4 hk4; have hS4 : w4.heap[w.heap.size]? = some (.cells #[.int .i64 (x0 : Nat), .int .i64 (x1 : Nat), .int .i64 (x2 : Nat), .int .i64 L] 109 (0, 0)) := (hga4.block _ hbl2 (by simpa using hbne)).trans hbx2; have hga5 : wo.grownBy w4 (some M) := grown_trans hgr2 hga4; have hrd4 := rd_grown HRM.out hga5 (fun b o e => by have := hAo b o e; simp; omega); clear hg4 hga4)
                | (at_builtin; refine wpList_full _ rfl (.tmp 45) (.tmp 49) 57 rfl 5 i0 _ 1 1 und57 ih iz is ib Ao pre.length _ rfl (hrd4.ext (by (repeat (first | exact Below.refl _ _ | assumption | refine below_drewN ?_ _ | refine below_drew ?_ | refine below_gr ?_ ?_ _ | refine below_alloc ?_ ?_ _ | refine Below.setCell ?_ ?_ _ | refine below_step ?_ (by assumption) ?_ | omega | (simp only [zz] at *; omega))))) (one_bytes _) _ 1 1 [_] rfl (rd_new1 _ _ _) (by simp [Value.oneCell']) (by omega) (by omega) (by unfold maxLen; omega) ?_; intro A5 c5 w5 hg5 hA5 hcc5 hrd5; replace hg5 := hg5.below; subst hA5; have hz5 := hg5.size; simp only [World.size_alloc] at hz5; have hb45 : Below w4.heap.size w4 w5 := (by (repeat (first | exact Below.refl _ _ | assumption | refine below_drewN ?_ _ | refine below_drew ?_ | refine below_gr ?_ ?_ _ | refine below_alloc ?_ ?_ _ | refine Below.setCell ?_ ?_ _ | refine below_step ?_ (by assumption) ?_ | omega | (simp only [zz] at *; omega)))); have hS5 := (hb45.block _ (by omega)).trans hS4; have hto5 := (hb45.block _ (by omega)).trans hto4; have t0 := obj_at hto5 0 _ rfl; have t1 := obj_at hto5 1 _ rfl; have t2 := obj_at hto5 2 _ rfl; have t3 := obj_at hto5 3 _ rfl; have s0 := obj_fz hS5 0; have s1 := obj_fz hS5 1; have s2 := obj_fz hS5 2; have s3 := obj_fz hS5 3; have v0 := obj_at hS5 0 _ rfl; have v1 := obj_at hS5 1 _ rfl; have v2 := obj_at hS5 2 _ rfl; have v3 := obj_at hS5 3 _ rfl))
              have hgw : w.grownBy w4 (some M) := grown_trans hgr hga5
              have hgw5 : w.grownBy w5 (some M) := grown_trans hgw (grown_none (below_grown hb45))
              have hgf5 := grown_set (grown_set (grown_set (grown_set hgw5 ⟨w.heap.size, 0, none⟩ (Nat.le_refl _) (.int .i64 (y0 : Nat))) ⟨w.heap.size, 1, none⟩ (Nat.le_refl _) (.int .i64 (y1 : Nat))) ⟨w.heap.size, 2, none⟩ (Nat.le_refl _) (.int .i64 (y2 : Nat))) ⟨w.heap.size, 3, none⟩ (Nat.le_refl _) (.int .i64 (l : Nat))
              have hkm5 := (hR4.km.below hb45)
              refine ⟨⟨pre ++ [((c : Nat) : Int)], q, l, id, _, c5, rfl, by rw [List.length_append]; rfl, by simp; omega, ?_, fun b o e => by injection e with e; injection e with e; omega, fun h => absurd h (by simp), fun x hx => ?_, by rw [HSQ.out]; exact set_four hS5, HNIc.out.1, by simp; omega, by rw [HNIc.out.2, HFC.out]; exact hic, ?_, hgf5, hR.grown hgf5 ((((hkm5.setCell _ (by simp; omega) _).setCell _ (by simp; omega) _).setCell _ (by simp; omega) _).setCell _ (by simp; omega) _)⟩, by simp [lenOf]; omega⟩
              · simp only [World.size_alloc] at hrd5
                have hne5 : ∀ (b o : Nat), (some ⟨w4.heap.size + 1, 0, none⟩ : Option Addr) = some ⟨b, o, none⟩ → b ≠ w.heap.size := fun b o e => by injection e with e; injection e with e; omega
                have := rd_setCell (rd_setCell (rd_setCell (rd_setCell hrd5 ⟨w.heap.size, 0, none⟩ (.int .i64 (y0 : Nat)) hne5) ⟨w.heap.size, 1, none⟩ (.int .i64 (y1 : Nat)) hne5) ⟨w.heap.size, 2, none⟩ (.int .i64 (y2 : Nat)) hne5) ⟨w.heap.size, 3, none⟩ (.int .i64 (l : Nat)) hne5
                simpa [byteC, Int.add_comm] using this
              · rcases List.mem_append.1 hx with hx | hx
                · exact hlet x hx
                · have := List.mem_singleton.1 hx; omega
              · rw [HNIc.out.2, HGC.out, ← HP.out, HGS.out, if_pos hic]; simp
            · have hicI : ¬ ((id : Int) < (f c : Nat)) := by omega
              go_wp2_with (go_at_call 75; refine (HCc.out _ (hRr2.below (by (repeat (first | exact Below.refl _ _ | assumption | refine below_drewN ?_ _ | refine below_drew ?_ | refine below_gr ?_ ?_ _ | refine below_alloc ?_ ?_ _ | refine Below.setCell ?_ ?_ _ | refine below_step ?_ (by assumption) ?_ | omega | (simp only [zz] at *; omega)))))).mono ?_; rintro e w4 ⟨rfl, hg4, hk4⟩; have hz4 := hg4.size; have hto4 : w4.heap[blk]? = some (.cells #[.int .i64 (y0 : Nat), .int .i64 (y1 : Nat), .int .i64 (y2 : Nat), .int .i64 (l : Nat)] 109 (0, 0)) := (hg4.block _ htl (by simp; omega)).trans hto3; have hga4 : wr.grownBy w4 (some M) := grown_trans (grown_none (below_grown hb3)) hg4; have hR4 : Reel R M W A ts cap w4 := hRr2.grown hga4 hk4; have hS4 : w4.heap[w.heap.size]? = some (.cells #[.int .i64 (x0 : Nat), .int .i64 (x1 : Nat), .int .i64 (x2 : Nat), .int .i64 L] 109 (0, 0)) := (hga4.block _ hbl2 (by simpa using hbne)).trans hbx2; have hga5 : wo.grownBy w4 (some M) := grown_trans hgr2 hga4; have hrd4 := rd_grown HRM.out hga5 (fun b o e => by have := hAo b o e; simp; omega); clear hg4 hga4)
              have e1 : ((id : Int) - (f c : Nat)) = ((id - f c : Nat) : Int) := by omega
              refine ⟨⟨c + 1, id - f c, rfl, by omega, by go_num, by rw [e1], by omega, ?_, hga5, hR4⟩, by simp [intOf]; omega⟩
              have := HGS.out
              rw [if_neg hic] at this
              exact this.symm
        · exfalso
          have : c = W.toNat := by omega
          rw [this, restC_end] at hid
          omega
end Go.Proofs.Ytafncmgijbkomaa
namespace Go.Proofs.Ytafncmgijbkomaa
open Go.RowKit Go.Maps
/-- two maps may have turned -/
structure Grown2 (M K : Nat) (w w' : World) : Prop where
  os : w'.os = w.os
  tape : w'.tape = w.tape
  out : w'.output = w.output
  size : w.heap.size ≤ w'.heap.size
  block : ∀ k, k < w.heap.size → k ≠ M → k ≠ K → w'.heap[k]? = w.heap[k]?
theorem Grown2.of {M K : Nat} {w w' : World} {r : Nat} (h : w.grownBy w' (some r)) (hr : r = M ∨ r = K) : Grown2 M K w w' :=
  ⟨h.1, h.2, h.3, h.size, fun k hk h1 h2 => h.block k hk (fun e => by have := Option.some.inj e; omega)⟩
theorem Grown2.below {M K : Nat} {w w' : World} (h : Below w.heap.size w w') : Grown2 M K w w' := Grown2.of (r := M) (grown_none (below_grown h)) (.inl rfl)
theorem Grown2.refl (M K : Nat) (w : World) : Grown2 M K w w := ⟨rfl, rfl, rfl, Nat.le_refl _, fun _ _ _ _ => rfl⟩
theorem Grown2.trans {M K : Nat} {a b c : World} (h : Grown2 M K a b) (k : Grown2 M K b c) : Grown2 M K a c :=
  ⟨k.os.trans h.os, k.tape.trans h.tape, k.out.trans h.out, Nat.le_trans h.size k.size, fun i hi h1 h2 => (k.block i (Nat.lt_of_lt_of_le hi h.size) h1 h2).trans (h.block i hi h1 h2)⟩
theorem Grown2.set {M K : Nat} {w w' : World} (h : Grown2 M K w w') (a : Addr) (ha : w.heap.size ≤ a.block) (v : Value) : Grown2 M K w (w'.setCell a v) :=
  ⟨h.os, h.tape, h.out, by simpa using h.size, fun k hk h1 h2 => (Below.heap_setCell _ _ _ _ (by omega)).trans (h.block k hk h1 h2)⟩
theorem Grown2.out2 {M K : Nat} {w w' : World} (h : Grown2 M K w w') (hM : w.heap.size ≤ M) (hK : w.heap.size ≤ K) : Below w.heap.size w w' :=
  ⟨h.os, h.tape, h.out, h.size, fun k hk => h.block k hk (by omega) (by omega)⟩
theorem Reel.grown2 {R M K : Nat} {W : Int} {A : Option Addr} {ts : List ByteArray} {cap : Nat} {w w' : World} (h : Reel R M W A ts cap w) (hg : Grown2 M K w w') (hk : KMap 109 M (goodC W.toNat (lts ts)) w') (hRK : R ≠ K) (hAK : ∀ (k : Nat) (s : ByteArray), ts[k]? = some s → ∃ b o, A = some ⟨b, o, none⟩ ∧ b ≠ K) : Reel R M W A ts cap w' := by
  have hz := hg.size
  have hc : ∀ b o, b < w.heap.size → b ≠ M → b ≠ K → w'.cell? ⟨b, o, none⟩ = w.cell? ⟨b, o, none⟩ := fun b o hb h1 h2 => World.cell?_of_block (a := ⟨b, o, none⟩) (hg.block b hb h1 h2)
  refine ⟨⟨(hc R 0 h.rat.2.2 h.ne hRK).trans h.rat.1, (hc R 1 h.rat.2.2 h.ne hRK).trans h.rat.2.1, Nat.lt_of_lt_of_le h.rat.2.2 hz⟩, fun k s hks => ?_, (hc R 2 h.rat.2.2 h.ne hRK).trans h.mp, h.ne, h.nea, hk⟩
  obtain ⟨b, o, e, h1, h2, h3⟩ := h.str k s hks
  obtain ⟨b', o', e', hne⟩ := h.nea k s hks
  obtain ⟨b2, o2, e2, hne2⟩ := hAK k s hks
  rw [e] at e' e2
  have q1 : b = b' := by injection e' with e'; injection e' with e1
  have q2 : b = b2 := by injection e2 with e'; injection e' with e1
  subst q1
  exact ⟨b, o, e, by omega, by omega, (hc b _ h1 hne (by rw [q2]; exact hne2)).trans h3⟩
theorem Reel.set {R M : Nat} {W : Int} {A : Option Addr} {ts : List ByteArray} {cap : Nat} {w : World} (h : Reel R M W A ts cap w) (a : Addr) (v : Value) (h1 : R ≠ a.block) (h2 : M ≠ a.block) (h3 : ∀ (k : Nat) (s : ByteArray), ts[k]? = some s → ∃ b o, A = some ⟨b, o, none⟩ ∧ b ≠ a.block) : Reel R M W A ts cap (w.setCell a v) := by
  have hc : ∀ b o, b ≠ a.block → (w.setCell a v).cell? ⟨b, o, none⟩ = w.cell? ⟨b, o, none⟩ := fun b o hb => World.cell?_of_block (a := ⟨b, o, none⟩) (Below.heap_setCell _ _ _ _ hb)
  refine ⟨⟨(hc R 0 h1).trans h.rat.1, (hc R 1 h1).trans h.rat.2.1, by simpa using h.rat.2.2⟩, fun k s hks => ?_, (hc R 2 h1).trans h.mp, h.ne, h.nea, h.km.setCell a h2 v⟩
  obtain ⟨b, o, e, q1, q2, q3⟩ := h.str k s hks
  obtain ⟨b2, o2, e2, hne2⟩ := h3 k s hks
  rw [e] at e2
  have q : b = b2 := by injection e2 with e'; injection e' with e1
  exact ⟨b, o, e, by simpa using q1, by simpa using q2, (hc b _ (by rw [q]; exact hne2)).trans q3⟩
theorem KMap.same {k : TypeId} {b : Nat} {good : Value → Value → Prop} {w w' : World} (h : KMap k b good w) (e : w'.heap[b]? = w.heap[b]?) : KMap k b good w' := by
  obtain ⟨l, ⟨es, clock, hb, r⟩, hl⟩ := h
  exact ⟨l, ⟨es, clock, e.trans hb, r⟩, hl⟩
theorem step_del {P : Program} {ops : Array Oper} {o : Oper} {a : Act} {w : World} {K : Act → World → Prop} {Q : Exit → Act → World → Prop} {E : Prop} (hgd : o.guard = none) (m x : Operand) (t k : TypeId) (hop : o.op = Op.call { callee := Callee.builtin Builtin.delete, args := #[m, x], argTypes := #[t, k] })
    {b : Nat} {G : World → Prop} {key : Value} (hm : a.eval m = .map (some b)) (hx : a.eval x = key)
    (hput : ∃ w', (Builtin.delete_ #[t, k] o.type #[.map (some b), key]).run P w = .ok (.tuple #[]) w' ∧ G w' ∧ w.grownBy w' (some b)) (h : ∀ w', G w' → w.grownBy w' (some b) → K (a.put o.dst (.tuple #[])) w') :
    if Region.wanted o (yielded ops a.tmps) = true then Oper.wp P o a w K Q else E := by
  have hw : Region.wanted o (yielded ops a.tmps) = true := by simp [Region.wanted, hgd]
  rw [if_pos hw]
  obtain ⟨w', hrun, hG, hg⟩ := hput
  unfold Oper.wp
  simp [execOp, hop, resolve, invoke, builtin, hm, hx, hrun, Result.andThen]
  exact h w' hG hg
/-- least and greatest -/
def rngV (q : Int × Int) : Value := .agg #[.int .i64 q.1, .int .i64 q.2]
def goodR (W : Nat) (win : Int) (ts : List (List Int)) (key v : Value) : Prop := ∃ p l, Tm.IsPl ts p ∧ l ≤ 20 ∧ key = stV p l ∧ v = rngV (Tm.pullsP W win l (Tm.remP ts p))
theorem finR {W : Nat} {win : Int} {ts : List ByteArray} (hs : Small ts) (h3 : ts.length ≤ 3) : Finite 109 (goodR W win (lts ts)) := by
  obtain ⟨L, h1, h2⟩ := finC (W := W) hs h3
  refine ⟨L, h1, ?_⟩
  rintro key v kl ⟨p, l, hp, hl, rfl, rfl⟩ hk
  exact h2 _ _ kl ⟨p, l, hp, hl, rfl, rfl⟩ hk
def pstep (W : Nat) (win : Int) (n : Nat) (ts : List (List Int)) (o : Int × Int) (c : Nat) : Int × Int :=
  if Tm.hasN W n (Tm.behs ((c : Nat) : Int) ts) = true then (min o.1 ((Tm.pullsP W win n (Tm.behs ((c : Nat) : Int) ts)).1 + if ((c : Nat) : Int) = win then 1 else 0), max o.2 ((Tm.pullsP W win n (Tm.behs ((c : Nat) : Int) ts)).2 + if ((c : Nat) : Int) = win then 1 else 0)) else o
def pfold (W : Nat) (win : Int) (n : Nat) (ts : List (List Int)) (c : Nat) : Int × Int := (List.range c).foldl (pstep W win n ts) (20, -1)
theorem pfold_step (W : Nat) (win : Int) (n : Nat) (ts : List (List Int)) (c : Nat) : pfold W win n ts (c + 1) = pstep W win n ts (pfold W win n ts c) c := by
  unfold pfold; rw [List.range_succ, List.foldl_append]; rfl
theorem pulls_fold (W : Nat) (win : Int) (n : Nat) (ts : List (List Int)) : Tm.pullsP W win (n + 1) ts = pfold W win n ts W := rfl
theorem pulls_bd (W : Nat) (win : Int) : ∀ (n : Nat) (ts : List (List Int)), 0 ≤ (Tm.pullsP W win n ts).1 ∧ (Tm.pullsP W win n ts).1 ≤ 20 ∧ -1 ≤ (Tm.pullsP W win n ts).2 ∧ (Tm.pullsP W win n ts).2 ≤ n
  | 0, _ => by simp [Tm.pullsP]
  | n + 1, ts => by
    rw [pulls_fold]
    have key : ∀ c, 0 ≤ (pfold W win n ts c).1 ∧ (pfold W win n ts c).1 ≤ 20 ∧ -1 ≤ (pfold W win n ts c).2 ∧ (pfold W win n ts c).2 ≤ ((n + 1 : Nat) : Int) := fun c => by
      induction c with
      | zero => simp [pfold]; omega
      | succ c ih =>
        rw [pfold_step]
        have hb := pulls_bd W win n (Tm.behs ((c : Nat) : Int) ts)
        unfold pstep
        split
        · simp only
          split <;> omega
        · exact ih
    exact key W
theorem pfold_bd (W : Nat) (win : Int) (n : Nat) (ts : List (List Int)) (c : Nat) : 0 ≤ (pfold W win n ts c).1 ∧ (pfold W win n ts c).1 ≤ 20 ∧ -1 ≤ (pfold W win n ts c).2 ∧ (pfold W win n ts c).2 ≤ ((n + 1 : Nat) : Int) := by
  induction c with
  | zero => simp [pfold]; omega
  | succ c ih =>
    rw [pfold_step]
    have hb := pulls_bd W win n (Tm.behs ((c : Nat) : Int) ts)
    unfold pstep
    split
    · simp only
      split <;> omega
    · exact ih
/-- what a call comes to that turns two maps -/
def Gives2 (w : World) (M K : Nat) (G : World → Prop) (v : Value) (e : Ending) (w' : World) : Prop := e = .returned v ∧ Grown2 M K w w' ∧ G w'
end Go.Proofs.Ytafncmgijbkomaa

/- Proved here: claims: one answer for the program and the reference, a part of the proofs about the ticket laws. Conditions: those that each theorem names, no others. -/
import Derived.Test.YtgjfejpibielaaaQ39
import Derived.WalkKit
import Derived.WalkSpells
import Derived.WalkLawsBesides
import Derived.Below
import Derived.Deep.QuietTactic
import Derived.BigQuiet
import Derived.Deep.Light
set_option linter.unusedSimpArgs false
set_option linter.unusedVariables false
namespace Go.Proofs.Ytgjfejpibielaaa
open Go.RowKit Go.Maps Go.Shelf
/-- what CheckShort of the reference says of a set -/
def ShortSays (L n r : Int) (K : List Int) (ts : List (List Int)) (rs : List (Int × Int)) (ss : List Int) (v e : Int) : Prop := ∀ (A : Option Addr) (c : Nat) (Y : Option Addr) (rows : List LRow) (yc : Nat) (D : Option Addr) (dc : Nat) (Sa : Option Addr) (sc : Nat) (w : World), I64 w A K → Lst w Y rows → (rows.map fun r => r.2.1) = ts → Rng w D rs → I64 w Sa ss → Calls Try.prog 39 #[.agg #[.int .i64 L, .int .i64 n, .slice A K.length c, .int .i64 r], .slice Y rows.length yc, .slice D rs.length dc, .slice Sa ss.length sc] w (Gives w (.tuple #[.int .i64 v, .int .i64 e]))
def ProgSays (L n r : Int) (K : List Int) (ts : List (List Int)) (rs : List (Int × Int)) (ss : List Int) (v e : Int) : Prop := ∀ (A : Option Addr) (c : Nat) (Y : Option Addr) (rows : List LRow) (yc : Nat) (D : Option Addr) (dc : Nat) (Sa : Option Addr) (sc : Nat) (w : World), I64 w A K → Lst w Y rows → (rows.map fun r => r.2.1) = ts → Rng w D rs → I64 w Sa ss → Calls Try.prog 38 #[.agg #[.int .i64 L, .int .i64 n, .slice A K.length c, .int .i64 r], .slice Y rows.length yc, .slice D rs.length dc, .slice Sa ss.length sc] w (Gives w (.tuple #[.int .i64 v, .int .i64 e]))
/-- what IsPayment says of a payment -/
def PaySays (L n r : Int) (K : List Int) (ts : List (List Int)) (rs : List (Int × Int)) (ss : List Int) (v : Int) : Prop := ∀ (A : Option Addr) (c : Nat) (Y : Option Addr) (rows : List LRow) (yc : Nat) (D : Option Addr) (dc : Nat) (Sa : Option Addr) (sc : Nat) (w : World), I64 w A K → Lst w Y rows → (rows.map fun r => r.2.1) = ts → Rng w D rs → I64 w Sa ss → Calls Try.prog 44 #[.agg #[.int .i64 L, .int .i64 n, .slice A K.length c, .int .i64 r], .slice Y rows.length yc, .slice D rs.length dc, .slice Sa ss.length sc] w (Gives w (.tuple #[.int .i64 v, .bool true]))
/-- a list with a property, and an error -/
def GivesP (P : List Int → Prop) (w : World) (f : Int) (en : Ending) (w' : World) : Prop := ∃ xs, GivesE w xs f en w' ∧ P xs
def ClaimsSay (L n r : Int) (K : List Int) (ts : List (List Int)) (rs : List (Int × Int)) (f l : Int) : Prop :=
 (∀ (A : Option Addr) (c : Nat) (Y : Option Addr) (rows : List LRow) (yc : Nat) (D : Option Addr) (dc : Nat) (w : World), I64 w A K → Lst w Y rows → (rows.map fun r => r.2.1) = ts → Rng w D rs → Calls Try.prog 42 #[.agg #[.int .i64 L, .int .i64 n, .slice A K.length c, .int .i64 r], .slice Y rows.length yc, .slice D rs.length dc] w (Gives w (.int .i64 f))) ∧
 (f = 0 → ∀ (A : Option Addr) (c : Nat) (Y : Option Addr) (rows : List LRow) (yc : Nat) (D : Option Addr) (dc : Nat) (w : World), I64 w A K → Lst w Y rows → (rows.map fun r => r.2.1) = ts → Rng w D rs → Calls Try.prog 43 #[.agg #[.int .i64 L, .int .i64 n, .slice A K.length c, .int .i64 r], .slice Y rows.length yc, .slice D rs.length dc] w (Gives w (.int .i64 l))) ∧
 (∀ (A : Option Addr) (c : Nat) (Y : Option Addr) (rows : List LRow) (yc : Nat) (D : Option Addr) (dc : Nat) (w : World), I64 w A K → Lst w Y rows → (rows.map fun r => r.2.1) = ts → Rng w D rs → Calls Try.prog 40 #[.agg #[.int .i64 L, .int .i64 n, .slice A K.length c, .int .i64 r], .slice Y rows.length yc, .slice D rs.length dc] w (GivesP (fun xs => xs.length ≤ 1000 ∧ (f ≠ 0 → xs = []) ∧ (f = 0 → ShortSays L n r K ts rs xs l 0)) w f)) ∧
 (∀ (A : Option Addr) (c : Nat) (Y : Option Addr) (rows : List LRow) (yc : Nat) (D : Option Addr) (dc : Nat) (w : World), I64 w A K → Lst w Y rows → (rows.map fun r => r.2.1) = ts → Rng w D rs → Calls Try.prog 41 #[.agg #[.int .i64 L, .int .i64 n, .slice A K.length c, .int .i64 r], .slice Y rows.length yc, .slice D rs.length dc] w (GivesP (fun xs => xs.length ≤ 1000 ∧ (f ≠ 0 → xs = []) ∧ (f = 0 → PaySays L n r K ts rs xs l)) w f))
theorem reach_some {L rest : Nat} {K : List Nat} {qs : List (Nat × Nat)} {Ts : List (List Nat)} : ∃ m : List Nat, m.length = Ts.length ∧ Tt.Reach (canL L rest K qs Ts) (Tt.payAll (canL L rest K qs Ts) (canL L rest K qs Ts).length) Ts.length (Tt.outM m) := by
 have hp := (Tt.payAll_spec (canL_pos (L := L) (rest := rest) (K := K) (qs := qs) (Ts := Ts)) _ (Nat.le_refl _)).1
 have hk := canL_len L rest K qs Ts
 generalize Tt.payAll (canL L rest K qs Ts) (canL L rest K qs Ts).length = p at *
 have hpl : p.length = Ts.length := by rw [hp.len, hk]
 have hn : ∀ x, x ∈ p → -1 ≤ x := fun x hx => by
  obtain ⟨i, hi, rfl⟩ := List.getElem_of_mem hx
  have e : Tt.gp p i = p[i] := by unfold Tt.gp; rw [List.getD_eq_getElem?_getD, List.getElem?_eq_getElem hi]; rfl
  rcases hp.mem i with h | h
  · rw [← e, h]; omega
  · have := (canL_at h).1; rw [← e]; omega
 have main : ∀ (N : Nat) (m q : List Nat), 2 * Tt.zeros m + q.length < N → Tt.Inv (canL L rest K qs Ts) p m q → ∃ m', Tt.Inv (canL L rest K qs Ts) p m' [] := by
  intro N
  induction N with
  | zero => intro m q h; omega
  | succ N ih =>
    intro m q h hI
    cases q with
    | nil => exact ⟨m, hI⟩
    | cons n q =>
      obtain ⟨h1, h2⟩ := hI.next hp canL_pos
      exact ih _ _ (by omega) h1
 obtain ⟨m, hm⟩ := main _ _ _ (Nat.lt_succ_self _) (Tt.inv_start (can := canL L rest K qs Ts) hn)
 have := hm.reach
 rw [hpl] at this
 exact ⟨m, by rw [hm.len, hpl], this⟩
set_option maxHeartbeats 1000000 in
theorem claims_fine (l rest : Nat) (k : List Nat) (hd : OkD l rest k) (Ts : List (List Nat)) (qs : List (Nat × Nat)) (hts : (Ts.map zs).length ≤ 1000) (hl : (zr qs).length ≤ 1000) (h6 : (Ts.map zs).length ≤ 6) (hTT : ∀ T, T ∈ Ts → T.length = k.length ∧ ∀ t, t ∈ T → 1 ≤ t ∧ t < 2 ^ l) (hs : chkSold ((Tt.codes l rest k).length : Nat) (zr qs) = 0) (hf : clmE ((Tt.codes l rest k).length : Nat) l k.length (Ts.map zs) (zr qs) = 0) : ClaimsSay l k.length rest (zs k) (Ts.map zs) (zr qs) 0 (leastI l rest k Ts (zr qs) Ts.length) ∧ ∀ ss : List Int, ss.length ≤ 1000 → ∃ v e, chkShortR l rest k (zr qs) Ts Ts.length ss = .tuple #[.int .i64 v, .int .i64 e] ∧ ProgSays l k.length rest (zs k) (Ts.map zs) (zr qs) ss v e ∧ ShortSays l k.length rest (zs k) (Ts.map zs) (zr qs) ss v e := by
 have hsc : chkSold ((Tt.cnt l rest (k.zip (Tt.fulls l k.length)) (-1) 0) : Nat) (zr qs) = 0 := by rw [cnt_codes]; exact hs
 have hTl : (Ts.map zs).length = Ts.length := List.length_map ..
 have hrw : ∀ rows : List LRow, (rows.map fun r => r.2.1) = Ts.map zs → rows.length = Ts.length := fun rows h => by
  have := congrArg List.length h
  simpa using this
 have hT64 : ∀ T, T ∈ Ts → T.length = k.length ∧ ∀ t, t ∈ T → t < 64 := fun T hT => ⟨(hTT T hT).1, fun t ht => by
  have h2 := ((hTT T hT).2 t ht).2
  have h3 := two_pow l hd.2.1
  omega⟩
 have hRS : ∀ ss : List Int, ss.length ≤ 1000 → ∀ (A : Option Addr) (c : Nat) (Y : Option Addr) (rows : List LRow) (yc : Nat) (D : Option Addr) (dc : Nat) (Sa : Option Addr) (sc : Nat) (w : World), I64 w A (zs k) → Lst w Y rows → (rows.map fun r => r.2.1) = Ts.map zs → Rng w D (zr qs) → I64 w Sa ss → Calls Try.prog 39 #[.agg #[.int .i64 (l : Nat), .int .i64 (k.length : Nat), .slice A k.length c, .int .i64 (rest : Nat)], .slice Y rows.length yc, .slice D (zr qs).length dc, .slice Sa ss.length sc] w (Gives w (chkShortR l rest k (zr qs) Ts Ts.length ss)) := fun ss hss A c Y rows yc D dc Sa sc w hA hY ht hD hS => by
  have h := rCheckShort_right l rest A k c Y rows yc Ts D (zr qs) dc Sa ss sc w hd hA hY (by rw [hrw _ ht]; omega) ht hTT hD hl hs hS hss
  rw [hrw rows ht] at h ⊢
  exact h
 refine ⟨⟨fun A c Y rows yc D dc w hA hY ht hD => ?_, fun _ => fun A c Y rows yc D dc w hA hY ht hD => ?_, fun A c Y rows yc D dc w hA hY ht hD => ?_, fun A c Y rows yc D dc w hA hY ht hD => ?_⟩, fun ss hss => ?_⟩
 · rw [zs_len, ← hf, ← ht]
   exact rClaimed_ok l rest A k c Y rows yc D (zr qs) dc w hd hA hY hD hl (by rw [hrw _ ht]; omega)
 · rw [zs_len]
   have h := rLeast_any l rest A k c Y rows yc Ts D (zr qs) dc w hd hA hY ht hT64 (by rw [hrw _ ht]; omega) hD hl
   rwa [hrw _ ht] at h ⊢
 · rw [zs_len, zr_len]
   refine (Short_ok l rest A k c Y rows yc Ts D qs dc w hd hA hY (by rw [hrw _ ht]; omega) ht hTT hD hsc).mono fun en w' h => ?_
   obtain ⟨m, B, d, rfl, hb, hB, hm, hR⟩ := h
   have hpl : (Tt.payAll (canL l rest k qs Ts) (canL l rest k qs Ts).length).length = Ts.length := by
    rw [(Tt.payAll_spec (canL_pos (L := l) (rest := rest) (K := k) (qs := qs) (Ts := Ts)) _ (Nat.le_refl _)).1.len, canL_len]
   rw [hpl] at hm hR
   have hol : (Tt.outM m).length ≤ 6 := by
    have : (Tt.outM m).length ≤ m.length := by unfold Tt.outM; exact Nat.le_trans (List.length_filter_le _ _) (by simp)
    omega
   refine ⟨zs (Tt.outM m), ⟨B, d, by rw [zs_len], hb, hB⟩, by rw [zs_len]; omega, fun h => absurd rfl h, fun _ => fun A2 c2 Y2 rows2 yc2 D2 dc2 Sa sc w2 hA2 hY2 ht2 hD2 hS => ?_⟩
   have h := hRS (zs (Tt.outM m)) (by rw [zs_len]; omega) A2 c2 Y2 rows2 yc2 D2 dc2 Sa sc w2 hA2 hY2 ht2 hD2 hS
   rw [set_says hm hR] at h
   rw [zs_len]
   exact h
 · rw [zs_len, zr_len]
   refine (Paid_ok l rest A k c Y rows yc Ts D qs dc w hd hA hY (by rw [hrw _ ht]; omega) ht hTT hD hsc).mono fun en w' h => ?_
   obtain ⟨B, d, rfl, hb, hB⟩ := h
   have hPl : (Tt.payAll (canL l rest k qs Ts) (canL l rest k qs Ts).length).length = Ts.length := by
    rw [(Tt.payAll_spec (canL_pos (L := l) (rest := rest) (K := k) (qs := qs) (Ts := Ts)) _ (Nat.le_refl _)).1.len, canL_len]
   refine ⟨_, ⟨B, d, rfl, hb, hB⟩, by rw [hPl]; omega, fun h => absurd rfl h, fun _ => fun A2 c2 Y2 rows2 yc2 D2 dc2 Sa sc w2 hA2 hY2 ht2 hD2 hS => ?_⟩
   have h := rIsPayment_any l rest A2 k c2 Y2 rows2 yc2 Ts D2 (zr qs) dc2 Sa (Tt.payAll (canL l rest k qs Ts) (canL l rest k qs Ts).length) sc w2 hd hA2 hY2 ht2 hT64 hD2 hl hS (by rw [hrw _ ht2]; omega) (by rw [hPl]; omega)
   have hmR : ∃ m : List Nat, m.length = Ts.length ∧ Tt.Reach (canL l rest k qs Ts) (Tt.payAll (canL l rest k qs Ts) (canL l rest k qs Ts).length) Ts.length (Tt.outM m) := reach_some
   obtain ⟨m, hm, hR⟩ := hmR
   rw [hrw _ ht2, pay_says, (paid_least hm hR).1] at h
   rw [zs_len, hrw _ ht2]
   exact h
 · have hv : ∃ v e, chkShortR l rest k (zr qs) Ts Ts.length ss = .tuple #[.int .i64 v, .int .i64 e] := by unfold chkShortR; split <;> exact ⟨_, _, rfl⟩
   obtain ⟨v, e, hv⟩ := hv
   refine ⟨v, e, hv, fun A c Y rows yc D dc Sa sc w hA hY ht hD hS => ?_, fun A c Y rows yc D dc Sa sc w hA hY ht hD hS => ?_⟩
   · have h := CheckShort_ok l rest A k c Y rows yc Ts D qs dc Sa ss sc w hd hA hY (by rw [hrw _ ht]; omega) ht hTT hD hsc hS hss
     rw [hrw _ ht, short_eq qs (fun T hT => (hTT T hT).1), hv] at h
     rw [zs_len, zr_len, hrw _ ht]
     exact h
   · have h := hRS ss hss A c Y rows yc D dc Sa sc w hA hY ht hD hS
     rw [hv] at h
     rw [zs_len]
     exact h
end Go.Proofs.Ytgjfejpibielaaa

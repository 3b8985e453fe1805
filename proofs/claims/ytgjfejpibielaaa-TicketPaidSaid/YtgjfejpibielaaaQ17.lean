/- Proved here: the code of a number; words; the errors of torn tickets; a day and a torn ticket, a part of the proofs about the ticket laws. Conditions: those that each theorem names, no others. -/
import Derived.Test.YtgjfejpibielaaaQ16
import Derived.WalkKit
import Derived.WalkSpells
import Derived.WalkLawsBesides
import Derived.Below
import Derived.Deep.QuietTactic
import Derived.BigQuiet
import Derived.Deep.Light
set_option linter.unusedSimpArgs false
set_option linter.unusedVariables false
namespace Go.Proofs.Ytgjfejpibielaaa
open Go.RowKit Go.Maps Go.Shelf
attribute [local go_sem] Oper.semAt_some World.cell?_setCell_far
/-- the code of a number, or the error -/
def codeV (L rest : Nat) (K : List Nat) (x : Int) : Value :=
 if x < 0 ∨ ((Tt.cnt L rest (K.zip (Tt.fulls L K.length)) (-1) 0) : Nat) ≤ x then .tuple #[.string ⟨#[]⟩, .int .i64 3] else .tuple #[.string (strW (Tt.codeA L rest (K.zip (Tt.fulls L K.length)) (-1) 0 x.toNat)), .int .i64 0]
set_option maxRecDepth 100000 in
set_option maxHeartbeats 2000000 in
theorem Code_ok (L rest : Nat) (A : Option Addr) (K : List Nat) (c : Nat) (x : Int) (w : World) (hd : OkD L rest K) (hA : I64 w A (zs K)) : Calls Try.prog 20 #[.agg #[.int .i64 (L : Nat), .int .i64 (K.length : Nat), .slice A K.length c, .int .i64 (rest : Nat)], .int .i64 x] w (Gives w (codeV L rest K x)) := by
 obtain ⟨N, hN⟩ : ∃ v, (Tt.cnt L rest (K.zip (Tt.fulls L K.length)) (-1) 0) = v := ⟨_, rfl⟩
 have HNF := hide hN
 unfold codeV
 rw [hN]
 clear hN
 by_cases h0 : x < 0
 · rw [if_pos (Or.inl h0)]
   go_enter Try.func20, Try.ntmps20
   go_upto_region 1 with fail
   obtain ⟨wa, hwa, hW, hX⟩ := boxed w #[.int .i64 (L : Nat), .int .i64 (K.length : Nat), .slice A K.length c, .int .i64 (rest : Nat)] 24
   rw [hwa]
   clear hwa
   replace hA := hA.ext hW
   have q0 := obj_at hX 0 _ rfl
   have q1 := obj_at hX 1 _ rfl
   have q2 := obj_at hX 2 _ rfl
   have q3 := obj_at hX 3 _ rfl
   have ql := obj_lt hX
   have hWs := hW.size
   go_wp2_with (first
 | (go_at_call 57; refine (open_ok L rest A K c _ hd hA).mono ?_; rintro e u1 ⟨B, M, S, d, rfl, hb1, hB0, hM0, hm⟩; have hz1 := hb1.size; have hB1 : Below w.heap.size w u1 := below_step hW hb1 hWs))
   go_ret2
   exact gives_of rfl hB1
 · have h1 : ¬ x < 0 := h0
   by_cases h2 : (N : Int) ≤ x
   · rw [if_pos (Or.inr h2)]
     go_enter Try.func20, Try.ntmps20
     go_upto_region 1 with fail
     obtain ⟨wa, hwa, hW, hX⟩ := boxed w #[.int .i64 (L : Nat), .int .i64 (K.length : Nat), .slice A K.length c, .int .i64 (rest : Nat)] 24
     rw [hwa]
     clear hwa
     replace hA := hA.ext hW
     have q0 := obj_at hX 0 _ rfl
     have q1 := obj_at hX 1 _ rfl
     have q2 := obj_at hX 2 _ rfl
     have q3 := obj_at hX 3 _ rfl
     have ql := obj_lt hX
     have hWs := hW.size
     go_wp2_with (first
 | (go_at_call 57; refine (open_ok L rest A K c _ hd hA).mono ?_; rintro e u1 ⟨B, M, S, d, rfl, hb1, hB0, hM0, hm⟩; have hz1 := hb1.size; have hB1 : Below w.heap.size w u1 := below_step hW hb1 hWs)
 | (go_at_call 58; refine (many_any B M L rest A K c S (Tt.fulls L K.length) d _ hm.at_ hm.km).mono ?_; rintro e u2 ⟨rfl, hb2⟩; replace hb2 := ex_below hb2; have hz2 := hb2.size; replace hm := hm.ext hb2; have hB2 : Below w.heap.size w u2 := below_step hB1 hb2 (by omega); rw [HNF.out]))
     go_ret2
     exact gives_of rfl hB2
   · rw [if_neg (by omega)]
     obtain ⟨i, rfl⟩ : ∃ i : Nat, x = (i : Nat) := ⟨x.toNat, by omega⟩
     rw [Int.toNat_natCast]
     have hiN : i < (Tt.cnt L rest (K.zip (Tt.fulls L K.length)) (-1) 0) := by rw [HNF.out]; omega
     have hij : ¬ ((N : Int) ≤ (i : Int)) := h2
     have HI := hide hiN
     clear hiN h1 h0
     go_enter Try.func20, Try.ntmps20
     go_upto_region 1 with fail
     obtain ⟨wa, hwa, hW, hX⟩ := boxed w #[.int .i64 (L : Nat), .int .i64 (K.length : Nat), .slice A K.length c, .int .i64 (rest : Nat)] 24
     rw [hwa]
     clear hwa
     replace hA := hA.ext hW
     have q0 := obj_at hX 0 _ rfl
     have q1 := obj_at hX 1 _ rfl
     have q2 := obj_at hX 2 _ rfl
     have q3 := obj_at hX 3 _ rfl
     have ql := obj_lt hX
     have hWs := hW.size
     go_wp2_with (first
 | (go_at_call 57; refine (open_ok L rest A K c _ hd hA).mono ?_; rintro e u1 ⟨B, M, S, d, rfl, hb1, hB0, hM0, hm⟩; have hz1 := hb1.size; have hB1 : Below w.heap.size w u1 := below_step hW hb1 hWs)
 | (go_at_call 58; refine (many_any B M L rest A K c S (Tt.fulls L K.length) d _ hm.at_ hm.km).mono ?_; rintro e u2 ⟨rfl, hb2⟩; replace hb2 := ex_below hb2; have hz2 := hb2.size; replace hm := hm.ext hb2; have hB2 : Below w.heap.size w u2 := below_step hB1 hb2 (by omega); rw [HNF.out])
 | (go_at_call 60; refine (code_any B M L rest A K c S (Tt.fulls L K.length) d _ i _ hm.at_ hm.ok hm.ne hm.km HI.out).mono ?_; rintro e u3 ⟨rfl, hg3, hk3⟩))
     go_ret2
     exact gives_of rfl (below_far hB2 hg3 (by omega) (by omega))
/-- whether a string is a word -/
def okB (L : Nat) (b : UInt8) : Bool := decide (97 ≤ b.toNat) && decide (b.toNat < 97 + L)
def isW (L n : Nat) (s : ByteArray) : Bool := decide (s.size = n) && s.data.toList.all (okB L)
theorem isW_str {L n : Nat} {s : ByteArray} (h : isW L n s = true) : ∃ ws : List Nat, s = strW ws ∧ ws.length = n ∧ ∀ x, x ∈ ws → x < L := by
 unfold isW at h
 simp only [Bool.and_eq_true, decide_eq_true_eq, List.all_eq_true] at h
 refine ⟨s.data.toList.map fun b => b.toNat - 97, ?_, by rw [List.length_map, ← h.1]; exact Array.length_toList, fun x hx => ?_⟩
 · have : (s.data.toList.map fun b => b.toNat - 97).map unb = s.data.toList := by
    rw [List.map_map]
    conv => rhs; rw [← List.map_id s.data.toList]
    apply List.map_congr_left
    intro b hb
    have hb2 := h.2 b hb
    unfold okB at hb2
    simp only [Bool.and_eq_true, decide_eq_true_eq] at hb2
    simp only [Function.comp, id]
    unfold unb
    rw [Nat.sub_add_cancel hb2.1]
    exact UInt8.ofNat_toNat
   unfold strW
   rw [this]
 · obtain ⟨b, hb, rfl⟩ := List.mem_map.1 hx
   have hb2 := h.2 b hb
   unfold okB at hb2
   simp only [Bool.and_eq_true, decide_eq_true_eq] at hb2
   omega
theorem isW_strW {L n : Nat} {ws : List Nat} (hl : ws.length = n) (h : ∀ x, x ∈ ws → x < L) (hL : L ≤ 6) : isW L n (strW ws) = true := by
 unfold isW
 simp only [Bool.and_eq_true, decide_eq_true_eq, List.all_eq_true]
 refine ⟨by rw [strW_size, hl], fun b hb => ?_⟩
 unfold strW at hb
 simp only at hb
 obtain ⟨x, hx, rfl⟩ := List.mem_map.1 hb
 have := h x hx
 unfold okB
 rw [unb_val (by omega)]
 simp; omega
theorem u8_sub : ∀ b, b < 256 → 97 ≤ b → IntKind.u8.wrap (((b : Nat) : Int) - 97) = ((b - 97 : Nat) : Int) := by decide +kernel
set_option maxRecDepth 100000 in
set_option maxHeartbeats 2000000 in
theorem isWord_any (L rest : Nat) (A : Option Addr) (K : List Nat) (c : Nat) (s : ByteArray) (w : World) (hd : OkD L rest K) (hA : I64 w A (zs K)) : Calls Try.prog 61 #[.agg #[.int .i64 (L : Nat), .int .i64 (K.length : Nat), .slice A K.length c, .int .i64 (rest : Nat)], .string s] w (Gives w (.bool (isW L K.length s))) := by
 have hn8 := hd.2.2.2.1
 have hL6 := hd.2.1
 obtain ⟨R, hR⟩ : ∃ R, isW L K.length s = R := ⟨_, rfl⟩
 have HR := hide hR
 rw [hR]
 clear hR
 by_cases hsz : s.size = K.length
 · have hszI : ((s.size : Int) != (K.length : Int)) = false := by simp; omega
   have HSZ := hide hsz
   have hAll : s.data.toList.all (okB L) = R := by rw [← HR.out]; unfold isW; simp [hsz]
   have HAL := hide hAll
   clear hsz hAll
   go_enter Try.func61, Try.ntmps61
   go_upto_region 1 with fail
   obtain ⟨wa, hwa, hW, hX⟩ := boxed w #[.int .i64 (L : Nat), .int .i64 (K.length : Nat), .slice A K.length c, .int .i64 (rest : Nat)] 24
   rw [hwa]
   clear hwa
   replace hA := hA.ext hW
   have q0 := obj_at hX 0 _ rfl
   have q1 := obj_at hX 1 _ rfl
   have q2 := obj_at hX 2 _ rfl
   have q3 := obj_at hX 3 _ rfl
   have ql := obj_lt hX
   have hWs := hW.size
   obtain ⟨C, w2, hcv, hb2, hz2, hcell⟩ := conv_bytes wa s
   have hX2 := hX.ext hb2
   have hX0 := hX
   have hB2 := below_step hW hb2 hWs
   clear hX q0 q2 q3
   have q0 := obj_at hX2 0 _ rfl
   have HCE := hide hcell
   have ql2 := obj_lt hX2
   clear hcell
   clear q1
   have q1 : wa.cell? ⟨w.heap.size, 1, none⟩ = some (.int .i64 (K.length : Nat)) := obj_at hX0 1 _ rfl
   go_step3
   go_wp2
   go_step3
   go_wp2
   clear hcv
   go_loopw [15] (fun i wr => ∃ k : Nat, k ≤ s.size ∧ i = .int .i64 (k : Nat) ∧ Hid ((s.data.toList.drop k).all (okB L) = R) ∧ wr = w2) (fun i _ => s.size - (intOf i).toNat)
   case atStart => exact ⟨0, Nat.zero_le _, rfl, hide (by simpa using HAL.out), rfl⟩
   case round =>
    obtain ⟨k, hk, rfl, hq, hw⟩ := hrel
    obtain ⟨w0, hw0⟩ : ∃ v, v = wr := ⟨_, rfl⟩
    rw [hw]
    clear hw hw0
    by_cases hlt : k < s.size
    · have hki : (k : Int) < (s.size : Int) := by omega
      have hck := HCE.out k hlt
      have hkl : k < s.data.toList.length := by simpa using hlt
      have hdr : s.data.toList.drop k = s[k] :: s.data.toList.drop (k + 1) := by rw [List.drop_eq_getElem_cons hkl]; rfl
      have hst : (s.data.toList.drop k).all (okB L) = ((decide (97 ≤ s[k].toNat) && decide (s[k].toNat < 97 + L)) && (s.data.toList.drop (k + 1)).all (okB L)) := by rw [hdr]; rfl
      have HST := hide hst
      have hu := s[k].toNat_lt
      clear hdr hst
      generalize s[k].toNat = b at *
      have hs8 : s.size ≤ 8 := by rw [HSZ.out]; omega
      have p0 : w2.cell? ⟨w.heap.size, 0, none⟩ = some (.int .i64 (L : Nat)) := obj_at hX2 0 _ rfl
      clear q0
      by_cases h97 : 97 ≤ b
      · have h97I : (97 : Int) ≤ (b : Int) := by omega
        have hbw : IntKind.u8.wrap ((b : Int) - 97) = ((b - 97 : Nat) : Int) := u8_sub b hu h97
        by_cases hbl : b < 97 + L
        · have hbI : ((b - 97 : Nat) : Int) < (L : Int) := by omega
          have hq2 : (s.data.toList.drop (k + 1)).all (okB L) = R := by rw [← hq.out, HST.out]; simp [h97, hbl]
          have HQ2 := hide hq2
          clear hq2 hq
          go_wp2
          exact ⟨⟨k + 1, by omega, by go_num, HQ2, trivial⟩, by simp [intOf]; omega⟩
        · have hbI : ¬ (((b - 97 : Nat) : Int) < (L : Int)) := by omega
          have hq2 : false = R := by rw [← hq.out, HST.out]; simp [hbl]
          rw [← hq2]
          clear hq2 hq
          go_wp2
          go_ret
          exact gives_of rfl hB2
      · have h97I : ¬ ((97 : Int) ≤ (b : Int)) := by omega
        have hq2 : false = R := by rw [← hq.out, HST.out]; simp [h97]
        rw [← hq2]
        clear hq2 hq
        go_wp2
        go_ret
        exact gives_of rfl hB2
    · have hki : ¬ ((k : Int) < (s.size : Int)) := by omega
      have hkn : k = s.size := by omega
      have hRt : true = R := by have := hq.out; rw [hkn, List.drop_eq_nil_of_le (by rw [Array.length_toList]; exact Nat.le_refl _)] at this; simpa using this
      rw [← hRt]
      clear hq hkn
      go_wp2
      go_ret
      exact gives_of rfl hB2
 · have hszI : ((s.size : Int) != (K.length : Int)) = true := by simp; omega
   have hRf : false = R := by rw [← HR.out]; unfold isW; simp [hsz]
   rw [← hRf]
   clear hRf
   have hszJ : ¬ ((s.size : Int) = (K.length : Int)) := by omega
   go_enter Try.func61, Try.ntmps61
   go_upto_region 1 with fail
   obtain ⟨wa, hwa, hW, hX⟩ := boxed w #[.int .i64 (L : Nat), .int .i64 (K.length : Nat), .slice A K.length c, .int .i64 (rest : Nat)] 24
   rw [hwa]
   clear hwa
   replace hA := hA.ext hW
   have q0 := obj_at hX 0 _ rfl
   have q1 := obj_at hX 1 _ rfl
   have q2 := obj_at hX 2 _ rfl
   have q3 := obj_at hX 3 _ rfl
   have ql := obj_lt hX
   have hWs := hW.size
   clear q0 q1 q2 q3
   have q1 : wa.cell? ⟨w.heap.size, 1, none⟩ = some (.int .i64 (K.length : Nat)) := obj_at hX 1 _ rfl
   go_step3
   go_wp2
   go_ret
   exact gives_of rfl hW
end Go.Proofs.Ytgjfejpibielaaa
namespace Go.Proofs.Ytgjfejpibielaaa
open Go.RowKit Go.Maps Go.Shelf
attribute [local go_sem] Oper.semAt_some World.cell?_setCell_far
/-! lists of lists -/
abbrev LRow : Type := Option Addr × List Int × Nat
def cellL (r : LRow) : Value := .slice r.1 r.2.1.length r.2.2
def Lst (w : World) (A : Option Addr) (rows : List LRow) : Prop := Rd w 1 A rows.length (rows.map cellL) ∧ ∀ r, r ∈ rows → I64 w r.1 r.2.1
theorem Lst.ext {w w' : World} {A : Option Addr} {rows : List LRow} (h : Lst w A rows) (hb : Below w.heap.size w w') : Lst w' A rows := ⟨h.1.ext hb, fun r hr => (h.2 r hr).ext hb⟩
/-- the errors of torn tickets -/
def chk1 (L n : Nat) (t : List Int) : Int := if (t.length : Int) ≠ (n : Int) then 15 else if withinB 1 (((2 ^ L : Nat) : Int) - 1) t = false then 3 else 0
def chkTs (L n : Nat) : List (List Int) → Int
 | [] => 0
 | t :: ts => if chk1 L n t = 0 then chkTs L n ts else chk1 L n t
theorem chk1_zero {L n : Nat} {T : List Nat} (hl : T.length = n) (h : ∀ x, x ∈ T → 1 ≤ x ∧ x < 2 ^ L) : chk1 L n (zs T) = 0 := by
 unfold chk1
 rw [if_neg (by rw [zs_len, hl]; simp)]
 have : withinB 1 (((2 ^ L : Nat) : Int) - 1) (zs T) = true := by
  unfold withinB
  simp only [Bool.not_eq_true', List.any_eq_false]
  intro x hx
  obtain ⟨k, hk, rfl⟩ := List.mem_map.1 hx
  have := h k hk
  simp only [outB, Bool.or_eq_true, decide_eq_true_eq]
  omega
 rw [this]
 rfl
set_option maxRecDepth 100000 in
set_option maxHeartbeats 2000000 in
theorem checkTorn_any (L rest : Nat) (A : Option Addr) (K : List Nat) (c : Nat) (Y : Option Addr) (rows : List LRow) (yc : Nat) (w : World) (hd : OkD L rest K) (hA : I64 w A (zs K)) (hT : Lst w Y rows) (hl : rows.length ≤ 1000) : Calls Try.prog 86 #[.agg #[.int .i64 (L : Nat), .int .i64 (K.length : Nat), .slice A K.length c, .int .i64 (rest : Nat)], .slice Y rows.length yc] w (Gives w (.int .i64 (chkTs L K.length (rows.map fun r => r.2.1)))) := by
 have hn8 := hd.2.2.2.1
 have hL6 := hd.2.1
 have hrows := hT.2
 have hrd := hT.1
 obtain ⟨R, hR⟩ : ∃ R, chkTs L K.length (rows.map fun r => r.2.1) = R := ⟨_, rfl⟩
 have HR := hide hR
 rw [hR]
 clear hR
 go_enter Try.func86, Try.ntmps86
 go_upto_region 1 with fail
 obtain ⟨wa, hwa, hW, hX⟩ := boxed w #[.int .i64 (L : Nat), .int .i64 (K.length : Nat), .slice A K.length c, .int .i64 (rest : Nat)] 24
 rw [hwa]
 clear hwa
 replace hA := hA.ext hW
 have q0 := obj_at hX 0 _ rfl
 have q1 := obj_at hX 1 _ rfl
 have q2 := obj_at hX 2 _ rfl
 have q3 := obj_at hX 3 _ rfl
 have ql := obj_lt hX
 have hWs := hW.size
 have hrdA := hrd.ext hW
 have hp0 := two_pow L hd.2.1
 obtain ⟨g, hg⟩ : ∃ g, 2 ^ L = g := ⟨_, rfl⟩
 have HG := hide hg
 rw [hg] at hp0
 have hs1 : wrap64 ((2 : Int) ^ L) = (g : Int) := by
  have e : ((2 : Int) ^ L) = ((2 ^ L : Nat) : Int) := (by push_cast; rfl)
  unfold wrap64
  rw [e, hg]
  omega
 clear hg
 go_wp2
 go_loopw [9] (fun i wr => ∃ k : Nat, k ≤ rows.length ∧ i = .int .i64 (k : Nat) ∧ Hid (chkTs L K.length ((rows.drop k).map fun r => r.2.1) = R) ∧ Below wa.heap.size wa wr) (fun i _ => rows.length - (intOf i).toNat)
 case atStart => exact ⟨0, Nat.zero_le _, rfl, hide HR.out, Below.refl _ _⟩
 case round =>
  obtain ⟨k, hk, rfl, hq, hb⟩ := hrel
  have hBr := below_step hW hb hWs
  have hzr := hb.size
  by_cases hlt : k < rows.length
  · have hki : (k : Int) < (rows.length : Int) := by omega
    obtain ⟨rb, ro, rfl, hrb, hrc⟩ := hrdA.2 (by omega)
    have hc0 := (hb.cell (p := ⟨rb, ro + k, none⟩) hrb).trans (hrc k (cellL rows[k]) (by simp [hlt]))
    have hIr := ((hrows _ (List.getElem_mem hlt)).ext hW).ext hb
    have hXr := hX.ext hb
    have hdr : rows.drop k = rows[k] :: rows.drop (k + 1) := List.drop_eq_getElem_cons hlt
    have hst : chkTs L K.length ((rows.drop k).map fun r => r.2.1) = if chk1 L K.length rows[k].2.1 = 0 then chkTs L K.length ((rows.drop (k + 1)).map fun r => r.2.1) else chk1 L K.length rows[k].2.1 := by rw [hdr]; rfl
    have HST := hide hst
    clear hdr hst hrc q0 q1 q2 q3
    generalize rows[k] = r at *
    obtain ⟨Y, t, yc⟩ := r
    unfold cellL at hc0
    simp only at hc0 hIr HST
    have q0 := obj_at hXr 0 _ rfl
    have q1 := obj_at hXr 1 _ rfl
    by_cases hlen : (t.length : Int) = (K.length : Int)
    · have hlen2 : ((t.length : Int) != (K.length : Int)) = false := by simp [hlen]
      have htn : t.length ≤ 8 := by omega
      have h1 : chk1 L K.length t = if withinB 1 ((g : Int) - 1) t = false then 3 else 0 := by unfold chk1; rw [if_neg (by simpa using hlen), HG.out]
      have H1 := hide h1
      clear h1 hlen
      obtain ⟨bw, hbw⟩ : ∃ v, withinB 1 ((g : Int) - 1) t = v := ⟨_, rfl⟩
      have HBW := hide hbw
      clear hbw
      cases bw with
      | true =>
        have hz1 : chk1 L K.length t = 0 := by rw [H1.out, HBW.out]; rfl
        have hq2 : chkTs L K.length ((rows.drop (k + 1)).map fun r => r.2.1) = R := by rw [← hq.out, HST.out, if_pos hz1]
        have HQ2 := hide hq2
        clear hq2 hz1 hq
        go_wp2_with (go_at_call 65; refine (within_any 1 ((g : Int) - 1) Y t yc _ hIr (by omega)).mono ?_; rintro e w2 ⟨rfl, hb2⟩; replace hb2 := ex_below hb2; have hz2 := hb2.size; rw [HBW.out])
        exact ⟨⟨k + 1, by omega, by go_num, HQ2, below_step hb hb2 hzr⟩, by simp [intOf]; omega⟩
      | false =>
        have hz1 : chk1 L K.length t = 3 := by rw [H1.out, HBW.out]; rfl
        have hq2 : 3 = R := by rw [← hq.out, HST.out, hz1]; rfl
        rw [← hq2]
        clear hq2 hz1 hq
        go_wp2_with (go_at_call 65; refine (within_any 1 ((g : Int) - 1) Y t yc _ hIr (by omega)).mono ?_; rintro e w2 ⟨rfl, hb2⟩; replace hb2 := ex_below hb2; have hz2 := hb2.size; rw [HBW.out])
        go_ret
        exact gives_of rfl (below_step hBr hb2 (by omega))
    · have hlen2 : ((t.length : Int) != (K.length : Int)) = true := by simpa using hlen
      have hz1 : chk1 L K.length t = 15 := by unfold chk1; rw [if_pos (by simpa using hlen)]
      have hq2 : 15 = R := by rw [← hq.out, HST.out, hz1]; rfl
      rw [← hq2]
      clear hq2 hz1 hq
      go_wp2
      go_ret
      exact gives_of rfl hBr
  · have hki : ¬ ((k : Int) < (rows.length : Int)) := by omega
    have hkn : k = rows.length := by omega
    have hRt : 0 = R := by have := hq.out; rw [hkn, List.drop_length] at this; simpa [chkTs] using this
    have HRT := hide hRt
    clear hq hkn hRt
    go_wp2
    go_ret
    exact gives_of (v_int HRT.out) hBr
/-- the errors of what was sold -/
def soldE (N : Int) : Int → List (Int × Int) → Int
 | _, [] => 0
 | nx, r :: rs => if r.1 < nx ∨ r.2 < r.1 ∨ N ≤ r.2 then 3 else soldE N (r.2 + 1) rs
def chkSold (N : Int) (rs : List (Int × Int)) : Int := if 10 < rs.length then 6 else soldE N 0 rs
theorem soldE_ok (N : Nat) : ∀ (rs : List (Int × Int)) (nx : Nat), soldE N (nx : Nat) rs = 0 → ∃ qs : List (Nat × Nat), rs = zr qs ∧ Tt.okSold N nx qs = true
 | [], nx, _ => ⟨[], rfl, rfl⟩
 | r :: rs, nx, h => by
   unfold soldE at h
   split at h
   · cases h
   · rename_i h1
     obtain ⟨qs, hq1, hq2⟩ := soldE_ok N rs (r.2.toNat + 1) (by rw [show ((r.2.toNat + 1 : Nat) : Int) = r.2 + 1 by omega]; exact h)
     refine ⟨(r.1.toNat, r.2.toNat) :: qs, ?_, ?_⟩
     · unfold zr at hq1 ⊢
       rw [List.map_cons, ← hq1]
       congr 1
       ext <;> simp <;> omega
     · unfold Tt.okSold
       simp only [hq2, Bool.and_true, Bool.and_eq_true, decide_eq_true_eq]
       omega
set_option maxRecDepth 100000 in
set_option maxHeartbeats 2000000 in
theorem checkSold_any (B M : Nat) (L rest : Nat) (A : Option Addr) (K : List Nat) (c : Nat) (S : Option Addr) (T : List Nat) (d : Nat) (D : Option Addr) (rs : List (Int × Int)) (dc : Nat) (w : World) (hmx : Mx w B M L rest A K c S T d (fun x => x = stV 0 (-1) 0)) (hD : Rng w D rs) : Calls Try.prog 67 #[.pointer (some ⟨B, 0, none⟩), .slice D rs.length dc] w (Gives w (.int .i64 (chkSold (Tt.cnt L rest (K.zip T) (-1) 0 : Nat) rs))) := by
 have hn := hmx.ok.2.1
 obtain ⟨N, hN⟩ : ∃ v, Tt.cnt L rest (K.zip T) (-1) 0 = v := ⟨_, rfl⟩
 have HNF := hide hN
 have hN6 : N ≤ 1679616 := by rw [← hN]; exact Tt.cnt_small hn (by rw [List.length_zip]; have := hmx.ok.2.2.2.1; omega)
 rw [hN]
 clear hN
 unfold chkSold
 by_cases h10 : 10 < rs.length
 · rw [if_pos h10]
   have hI : (10 : Int) < (rs.length : Int) := by omega
   go_enter Try.func67, Try.ntmps67
   go_wp2
   go_ret
   exact gives_of rfl (Below.refl _ _)
 · rw [if_neg h10]
   have hI : ¬ ((10 : Int) < (rs.length : Int)) := by omega
   obtain ⟨R, hR⟩ : ∃ R, soldE N 0 rs = R := ⟨_, rfl⟩
   have HR := hide hR
   rw [hR]
   clear hR
   go_enter Try.func67, Try.ntmps67
   go_wp2_with (go_at_call 58; refine (many_any B M L rest A K c S T d _ hmx.at_ hmx.km).mono ?_; rintro e w1 ⟨rfl, hb1⟩; replace hb1 := ex_below hb1; have hz1 := hb1.size; rw [HNF.out])
   have hr1 := hD.ext hb1
   go_loopw [5, 16] (fun nx i wr => ∃ (k : Nat) (x : Int), k ≤ rs.length ∧ i = .int .i64 (k : Nat) ∧ nx = .int .i64 x ∧ (0 ≤ x ∧ x ≤ 1679617) ∧ Hid (soldE N x (rs.drop k) = R) ∧ Below w1.heap.size w1 wr) (fun _ i _ => rs.length - (intOf i).toNat)
   case atStart => exact ⟨0, 0, Nat.zero_le _, rfl, rfl, by omega, hide HR.out, Below.refl _ _⟩
   case round =>
    obtain ⟨k, x, hk, rfl, rfl, hx, hq, hb⟩ := hrel
    have hBr : Below w.heap.size w wr := below_step hb1 hb hz1
    have hzr := hb.size
    by_cases hlt : k < rs.length
    · have hki : (k : Int) < (rs.length : Int) := by omega
      have hrr := hr1.ext hb
      obtain ⟨rb, ro, rfl, hrb⟩ := Rng.form hrr (by omega)
      obtain ⟨_, d0, dd1⟩ := Rng.at hrr hlt
      have hdr : rs.drop k = rs[k] :: rs.drop (k + 1) := List.drop_eq_getElem_cons hlt
      have hst : soldE N x (rs.drop k) = if rs[k].1 < x ∨ rs[k].2 < rs[k].1 ∨ (N : Int) ≤ rs[k].2 then 3 else soldE N (rs[k].2 + 1) (rs.drop (k + 1)) := by rw [hdr]; rfl
      have HST := hide hst
      clear hdr hst
      generalize rs[k] = r at *
      obtain ⟨lo, hi⟩ := r
      simp only at d0 dd1 HST
      have hba : Below wr.heap.size wr (wr.alloc (.cells #[.int .i64 lo, .int .i64 hi] 74)) := below_alloc (Below.refl _ _) (Nat.le_refl _) _
      by_cases c1 : lo < x
      · have c1d : decide (lo < x) = true := by simpa using c1
        have hq2 : 3 = R := by rw [← hq.out, HST.out, if_pos (Or.inl c1)]
        rw [← hq2]
        clear hq2 hq
        go_wp2
        go_ret
        exact gives_of rfl (below_step hBr hba (by omega))
      · by_cases c2 : hi < lo
        · have hq2 : 3 = R := by rw [← hq.out, HST.out, if_pos (Or.inr (Or.inl c2))]
          rw [← hq2]
          clear hq2 hq
          go_wp2
          go_ret
          exact gives_of rfl (below_step hBr hba (by omega))
        · by_cases c3 : (N : Int) ≤ hi
          · have hq2 : 3 = R := by rw [← hq.out, HST.out, if_pos (Or.inr (Or.inr c3))]
            rw [← hq2]
            clear hq2 hq
            go_wp2
            go_ret
            exact gives_of rfl (below_step hBr hba (by omega))
          · have hq2 : soldE N (hi + 1) (rs.drop (k + 1)) = R := by rw [← hq.out, HST.out, if_neg (by omega)]
            have HQ2 := hide hq2
            have hxi : 0 ≤ hi + 1 ∧ hi + 1 ≤ 1679617 := by omega
            clear hq2 hq
            go_wp2
            exact ⟨⟨k + 1, hi + 1, by omega, by go_num, rfl, hxi, HQ2, below_step hb hba hzr⟩, by simp [intOf]; omega⟩
    · have hki : ¬ ((k : Int) < (rs.length : Int)) := by omega
      have hkn : k = rs.length := by omega
      have hRt : 0 = R := by have := hq.out; rw [hkn, List.drop_length] at this; simpa [soldE] using this
      have HRT := hide hRt
      clear hq hkn hRt
      go_wp2
      go_ret
      exact gives_of (v_int HRT.out) hBr
end Go.Proofs.Ytgjfejpibielaaa
namespace Go.Proofs.Ytgjfejpibielaaa
open Go.RowKit Go.Maps Go.Shelf
attribute [local go_sem] Oper.semAt_some World.cell?_setCell_far
theorem KMap.notCell {k : TypeId} {b : Nat} {good : Value → Value → Prop} {must : Value → Prop} {w : World} (h : KMap k b good must w) {b' o : Nat} {v : Value} (hc : w.cell? ⟨b', o, none⟩ = some v) : b' ≠ b := fun e => by
 obtain ⟨l, ⟨es, clock, hm, _⟩, _⟩ := h
 rw [e] at hc
 simp [World.cell?, hm] at hc
theorem I64.notMap {w : World} {A : Option Addr} {xs : List Int} (h : I64 w A xs) (h0 : 0 < xs.length) {k : TypeId} {m : Nat} {good : Value → Value → Prop} {must : Value → Prop} (hm : KMap k m good must w) : ∀ b o, A = some ⟨b, o, none⟩ → b ≠ m := fun b o e => by
 obtain ⟨b', o', he, _, _, hc⟩ := h 0 xs[0] (by simp)
 rw [e] at he
 injection he with he
 injection he with e1 e2 _
 subst e1 e2
 exact hm.notCell hc
theorem Rng.notMap {w : World} {A : Option Addr} {xs : List (Int × Int)} (h : Rng w A xs) (h0 : 0 < xs.length) {k : TypeId} {m : Nat} {good : Value → Value → Prop} {must : Value → Prop} (hm : KMap k m good must w) : ∀ b o, A = some ⟨b, o, none⟩ → b ≠ m := fun b o e => by
 subst e
 exact hm.notCell (h.at h0).2.1
theorem FarM.of {w : World} {B M : Nat} {L rest : Nat} {A : Option Addr} {K : List Nat} {c : Nat} {S : Option Addr} {T : List Nat} {d : Nat} {must : Value → Prop} (h : Mx w B M L rest A K c S T d must) {k : TypeId} {m : Nat} {good : Value → Value → Prop} {must' : Value → Prop} (hm : KMap k m good must' w) (hne : M ≠ m) : FarM B M A S m :=
 ⟨(hm.notBlk h.at_.1).symm, hne, h.at_.2.1.notMap (by rw [zs_len]; have := h.ok.2.2.1; omega) hm, h.at_.2.2.notMap (by rw [zs_len]; have := h.ok.2.2.2.2.1; have := h.ok.2.2.1; omega) hm⟩
theorem Lst.one {w : World} {Y : Option Addr} {t : List Int} (yc : Nat) (ty : TypeId) (hY : I64 w Y t) : Lst (w.alloc (.cells #[.slice Y t.length yc] ty)) (some ⟨w.heap.size, 0, none⟩) [(Y, t, yc)] :=
 ⟨rd_new1 w _ ty, fun r hr => by rw [List.mem_singleton.1 hr]; exact hY.ext (below_alloc (Below.refl _ _) (Nat.le_refl _) _)⟩
theorem Lst.oneZ {w : World} {Y : Option Addr} {T : List Nat} (yc : Nat) (ty : TypeId) (hY : I64 w Y (zs T)) : Lst (w.alloc (.cells #[.slice Y T.length yc] ty)) (some ⟨w.heap.size, 0, none⟩) [(Y, zs T, yc)] := by
 have h := Lst.one yc ty hY
 rw [zs_len] at h
 exact h
/-- what opened comes to -/
def OpenedAt (w : World) (L rest : Nat) (A : Option Addr) (K : List Nat) (c : Nat) (T : List Nat) (e : Ending) (w' : World) : Prop :=
 ∃ (B1 N1 : Nat) (S1 : Option Addr) (d1 : Nat) (B2 N2 : Nat) (S2 : Option Addr) (d2 : Nat), e = .returned (.tuple #[.pointer (some ⟨B1, 0, none⟩), .pointer (some ⟨B2, 0, none⟩), .int .i64 0]) ∧ RowKit.Below w.heap.size w w' ∧ w.heap.size ≤ N1 ∧ w.heap.size ≤ N2
  ∧ Mx w' B1 N1 L rest A K c S1 (Tt.fulls L K.length) d1 (fun x => x = stV 0 (-1) 0) ∧ Mx w' B2 N2 L rest A K c S2 T d2 (fun x => x = stV 0 (-1) 0) ∧ FarM B1 N1 A S1 N2 ∧ FarM B2 N2 A S2 N1
set_option maxRecDepth 100000 in
set_option maxHeartbeats 1000000 in
theorem opened_ok (L rest : Nat) (A : Option Addr) (K : List Nat) (c : Nat) (Y : Option Addr) (T : List Nat) (yc : Nat) (w : World) (hd : OkD L rest K) (hA : I64 w A (zs K)) (hlT : T.length = K.length) (htT : ∀ t, t ∈ T → 1 ≤ t ∧ t < 2 ^ L) (hY : I64 w Y (zs T)) : Calls Try.prog 66 #[.agg #[.int .i64 (L : Nat), .int .i64 (K.length : Nat), .slice A K.length c, .int .i64 (rest : Nat)], .slice Y T.length yc] w (OpenedAt w L rest A K c T) := by
 have HCT : Hid (chkTs L K.length ([((Y, zs T, yc) : LRow)].map fun r => r.2.1) = 0) := hide (by
  show chkTs L K.length [zs T] = 0
  unfold chkTs
  rw [if_pos (chk1_zero hlT htT)]
  rfl)
 have hok2 : OkM L rest K T := hd.torn hlT (fun t ht => by have := htT t ht; have := two_pow L hd.2.1; omega)
 clear hlT htT
 go_enter Try.func66, Try.ntmps66
 go_upto_region 1 with fail
 obtain ⟨wa, hwa, hW, hX⟩ := boxed w #[.int .i64 (L : Nat), .int .i64 (K.length : Nat), .slice A K.length c, .int .i64 (rest : Nat)] 24
 rw [hwa]
 clear hwa
 replace hA := hA.ext hW
 have q0 := obj_at hX 0 _ rfl
 have q1 := obj_at hX 1 _ rfl
 have q2 := obj_at hX 2 _ rfl
 have q3 := obj_at hX 3 _ rfl
 have ql := obj_lt hX
 have hWs := hW.size
 go_wp2_with (first
 | (go_at_call 57; refine (open_ok L rest A K c _ hd hA).mono ?_; rintro e u1 ⟨B, M, S, d, rfl, hb1, hB0, hM0, hm⟩; have hz1 := hb1.size; have hB1 : Below w.heap.size w u1 := below_step hW hb1 hWs; have hX1 := hX.ext hb1; clear q0 q1 q2 q3; have q0 := obj_at hX1 0 _ rfl; have q1 := obj_at hX1 1 _ rfl; have q2 := obj_at hX1 2 _ rfl; have q3 := obj_at hX1 3 _ rfl; have hA1 := hA.ext hb1)
 | (go_at_call 86; refine (checkTorn_any L rest A K c _ [(Y, zs T, yc)] 1 _ hd (hA1.ext (below_alloc (Below.refl _ _) (Nat.le_refl _) _)) (Lst.oneZ _ _ (((hY.ext hW).ext hb1))) (by show 1 ≤ 1000; omega)).mono ?_; rintro e u3 ⟨rfl, hb3⟩; replace hb3 := ex_below hb3; have hz3 := hb3.size; rw [World.size_alloc] at hz3; rw [HCT.out]; have hb13 : Below u1.heap.size u1 u3 := (by (repeat (first | exact Below.refl _ _ | assumption | refine below_drewN ?_ _ | refine below_drew ?_ | refine below_gr ?_ ?_ _ | refine below_alloc ?_ ?_ _ | refine Below.setCell ?_ ?_ _ | refine below_step ?_ (by assumption) ?_ | omega | (simp only [zz] at *; omega)))); replace hm := hm.ext hb13; clear q0 q1 q2 q3; have hX3 := hX1.ext hb13; have q0 := obj_at hX3 0 _ rfl; have q1 := obj_at hX3 1 _ rfl; have q2 := obj_at hX3 2 _ rfl; have q3 := obj_at hX3 3 _ rfl; have hA3 := hA1.ext hb13; have hB3 := below_step hB1 hb13 (by omega))
 | (go_at_call 73; refine (new_torn L rest A K c Y T yc _ hok2 hA3 ((hY.ext hW).ext (below_step hb1 hb13 hz1))).mono ?_; intro e u4 hn; obtain ⟨B2, M2, S2, d2, rfl, hb4, hB20, hM20, hm2⟩ := hn.mx hok2; clear hn))
 go_ret3
 have hM3 := hm.lts.2
 have hm4 := hm.ext hb4
 exact ⟨B, M, S, d, B2, M2, S2, d2, rfl, below_step hB3 hb4 (by omega), by omega, by omega, hm4, hm2, hm.new hM20, FarM.of hm2 hm4.km (by omega)⟩
end Go.Proofs.Ytgjfejpibielaaa

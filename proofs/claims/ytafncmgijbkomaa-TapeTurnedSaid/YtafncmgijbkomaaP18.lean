/- Proved here: how nights end, a part of the proofs about the tape laws. Conditions: those that each theorem names, no others. -/
import Derived.Test.YtafncmgijbkomaaP17
import Derived.WalkKit
import Derived.WalkSpells
import Derived.WalkLawsBesides
import Derived.Below
import Derived.Deep.QuietTactic
import Derived.BigQuiet
import Derived.Deep.Light
import Derived.Deep.RegionHeld3
import Derived.Deep.RegionLaw
import Derived.Deep.DeepCutAuto
import Derived.Deep.CutBlock
set_option linter.unusedSimpArgs false
set_option linter.unusedVariables false
namespace Go.Proofs.Ytafncmgijbkomaa
open Go.RowKit Go.Maps Go.Lib
def eFold (W : Nat) (jo jt : Int) (l : Nat) (ts : List (List Int)) (o t c : Nat) : Nat := (List.range c).foldl (fun a c => a ||| Tm.endsP W jo jt l (Tm.behs (c : Nat) ts) (Tm.oneZ jo jt (c : Nat) o t) (Tm.twoK jt (c : Nat) t)) 0
theorem eFold_succ (W : Nat) (jo jt : Int) (l : Nat) (ts : List (List Int)) (o t c : Nat) : eFold W jo jt l ts o t (c + 1) = eFold W jo jt l ts o t c ||| Tm.endsP W jo jt l (Tm.behs (c : Nat) ts) (Tm.oneZ jo jt (c : Nat) o t) (Tm.twoK jt (c : Nat) t) := by simp [eFold, List.range_succ]
theorem endsP_lt (W : Nat) (jo jt : Int) (l : Nat) (ts : List (List Int)) (o t : Nat) : Tm.endsP W jo jt l ts o t < 4 := by
  rw [Tm.endsP_eq]
  unfold Tm.bits
  split <;> split <;> decide
theorem or_lt4 {a b : Nat} (ha : a < 4) (hb : b < 4) : a ||| b < 4 := Nat.or_lt_two_pow (n := 2) ha hb
theorem or_i64 {a b : Nat} (ha : a < 4) (hb : b < 4) : Value.int IntKind.i64 (bits BinOp.or IntKind.i64 (a : Nat) (b : Nat)) = .int .i64 ((a ||| b : Nat) : Int) := by
  have h1 : a = 0 ∨ a = 1 ∨ a = 2 ∨ a = 3 := by omega
  have h2 : b = 0 ∨ b = 1 ∨ b = 2 ∨ b = 3 := by omega
  rcases h1 with rfl | rfl | rfl | rfl <;> rcases h2 with rfl | rfl | rfl | rfl <;> rfl
theorem eFold_lt (W : Nat) (jo jt : Int) (l : Nat) (ts : List (List Int)) (o t c : Nat) : eFold W jo jt l ts o t c < 4 := by
  induction c with
  | zero => simp [eFold]
  | succ c ih => rw [eFold_succ]; exact or_lt4 ih (endsP_lt _ _ _ _ _ _ _)
theorem kset {X : World} {B k b o : Nat} {v u : Value} (hne : b ≠ B) (h : X.cell? ⟨b, o, none⟩ = some u) : (X.setCell ⟨B, k, none⟩ v).cell? ⟨b, o, none⟩ = some u :=
  (World.cell?_of_block (a := ⟨b, o, none⟩) (Below.heap_setCell _ _ _ _ hne)).trans h
theorem kset6 {X : World} {B b o : Nat} {a c d e f g u : Value} (hne : b ≠ B) (h : X.cell? ⟨b, o, none⟩ = some u) : ((((((X.setCell ⟨B, 0, none⟩ a).setCell ⟨B, 1, none⟩ c).setCell ⟨B, 2, none⟩ d).setCell ⟨B, 3, none⟩ e).setCell ⟨B, 4, none⟩ f).setCell ⟨B, 5, none⟩ g).cell? ⟨b, o, none⟩ = some u :=
  kset hne (kset hne (kset hne (kset hne (kset hne (kset hne h)))))
theorem drew0 {X : World} {b o : Nat} {v : Value} (h : X.cell? ⟨b, o, none⟩ = some v) : X.drew.cell? ⟨b, o, none⟩ = some v := h
theorem drewA {X : World} {ob : Obj} {b o : Nat} {v : Value} (h : X.cell? ⟨b, o, none⟩ = some v) : (X.alloc ob).drew.cell? ⟨b, o, none⟩ = some v := cell?_alloc_some _ h
theorem set_six {W : World} {B : Nat} {ty : TypeId} {a b c d e f a' b' c' d' e' f' : Value} (hh : W.heap[B]? = some (.cells #[a, b, c, d, e, f] ty (0, 0))) : ((((((W.setCell ⟨B, 0, none⟩ a').setCell ⟨B, 1, none⟩ b').setCell ⟨B, 2, none⟩ c').setCell ⟨B, 3, none⟩ d').setCell ⟨B, 4, none⟩ e').setCell ⟨B, 5, none⟩ f').heap[B]? = some (.cells #[a', b', c', d', e', f'] ty (0, 0)) :=
  set_obj (set_obj (set_obj (set_obj (set_obj (set_obj hh 0 _) 1 _) 2 _) 3 _) 4 _) 5 _
set_option maxRecDepth 100000 in
set_option maxHeartbeats 8000000 in
theorem ends_succ (R M : Nat) (Wn : Nat) (A : Option Addr) (ts : List ByteArray) (cap : Nat) (h3 : ts.length ≤ 3) (hf : Fine ts) (hs : Small ts) (hW1 : 1 ≤ Wn) (hW2 : Wn ≤ 5) (jo jt : Int) (J K : Nat) (hKM : K ≠ M) (hRK : R ≠ K) (hAK : ∀ (k : Nat) (s : ByteArray), ts[k]? = some s → ∃ b o, A = some ⟨b, o, none⟩ ∧ b ≠ K) (hJM : J ≠ M) (hJK : J ≠ K) (l o t : Nat) (hl : l + 1 ≤ 20) (ho : o ≤ 20) (ht : t ≤ 20)
    (ih : ∀ (o t : Nat) (p : List Nat) (w : World), o ≤ 20 → t ≤ 20 → Tm.IsPl (lts ts) p → Reel R M (Wn : Nat) A ts cap w → (KMap 127 K (goodE Wn jo jt (lts ts))) w → JAt w J R jo jt K → Calls Try.prog 86 #[.pointer (some ⟨J, 0, none⟩), waV p l o t] w (Gives2 w M K (fun w' => (KMap 109 M (goodC Wn (lts ts))) w' ∧ (KMap 127 K (goodE Wn jo jt (lts ts))) w') (.int .i64 (Tm.endsP Wn jo jt l (Tm.remP (lts ts) p) o t : Nat))))
    (p : List Nat) (w : World) (hp : Tm.IsPl (lts ts) p) (hR : Reel R M (Wn : Nat) A ts cap w) (hK : (KMap 127 K (goodE Wn jo jt (lts ts))) w) (hJ : JAt w J R jo jt K)
    (hN : Tm.hasN Wn (l + 1) (Tm.remP (lts ts) p) = true) (hz : ¬ (o = 0 ∧ t = 0)) (hlow : ¬ (t = 0 ∨ l + 1 < o ∨ l + 1 < t)) : Calls Try.prog 86 #[.pointer (some ⟨J, 0, none⟩), waV p (l + 1) o t] w (Gives2 w M K (fun w' => (KMap 109 M (goodC Wn (lts ts))) w' ∧ (KMap 127 K (goodE Wn jo jt (lts ts))) w') (.int .i64 (Tm.endsP Wn jo jt (l + 1) (Tm.remP (lts ts) p) o t : Nat))) := by
  have hKb := hide (fun (a b : World) (h : Below a.heap.size a b) (k : (KMap 109 M (goodC Wn (lts ts))) a) => k.below h)
  have HCN := hide (fun (w' : World) (h : Reel R M (Wn : Nat) A ts cap w') => count_any R M (Wn : Nat) A ts cap h3 hf hs ⟨by omega, by omega⟩ (l + 1) hl p w' hp h)
  have hpos := (Tm.cntC_pos Wn (l + 1) (Tm.remP (lts ts) p)).2 hN
  rw [Int.toNat_natCast] at HCN
  obtain ⟨kl, hkl⟩ := keyW_of hs hp hl ho ht
  have HGV : Hid (∀ v, goodE Wn jo jt (lts ts) (waV p (l + 1) o t) v → v = .int .i64 (Tm.endsP Wn jo jt (l + 1) (Tm.remP (lts ts) p) o t : Nat)) := hide (fun v h => by
    obtain ⟨q, m, o2, t2, hq, hm, _, _, he, hv⟩ := h
    obtain ⟨rfl, rfl, rfl, rfl⟩ := waV_inj (by simpa [lts] using h3) hp hq he
    exact hv)
  have HPUT := hide (fun (w' : World) (h : (KMap 127 K (goodE Wn jo jt (lts ts))) w') => h.put lawW und122 (finE (W := Wn) (jo := jo) (jt := jt) hs h3) hkl (⟨p, l + 1, o, t, hp, hl, ho, ht, rfl, rfl⟩ : goodE Wn jo jt (lts ts) (waV p (l + 1) o t) (.int .i64 (Tm.endsP Wn jo jt (l + 1) (Tm.remP (lts ts) p) o t : Nat))))
  have HLK := hide (fun (w' : World) (h : (KMap 127 K (goodE Wn jo jt (lts ts))) w') => h.look2 lawW und122 zero3 hkl)
  have hEE := endsP_three (jo := jo) (jt := jt) hN hz hlow
  have HNX := hide (fun (c : Nat) (w' : World) (h : Reel R M (Wn : Nat) A ts cap w') => next_any R (Wn : Nat) A ts cap p (c : Nat) w' h.rat h.str h3 hp hf)
  have HIH := hide (fun (c o t : Nat) (ho : o ≤ 20) (ht : t ≤ 20) (w' : World) (h : Reel R M (Wn : Nat) A ts cap w') (h2 : (KMap 127 K (goodE Wn jo jt (lts ts))) w') (h4 : JAt w' J R jo jt K) => ih o t (Tm.nextP (lts ts) p (c : Nat)) w' ho ht (Tm.next_is hp _) h h2 h4)
  have HREM := hide (fun c : Nat => Tm.rem_next (lts ts) p (c : Nat))
  clear ih hN
  obtain ⟨L, hL⟩ : ∃ L : Int, ((l + 1 : Nat) : Int) = L := ⟨_, rfl⟩
  have hL1 : L - 1 = (l : Int) := by omega
  have hL2 : 1 ≤ L ∧ L ≤ 20 := by omega
  obtain ⟨x0, HX0⟩ : ∃ x : Nat, Hid (p.getD 0 0 = x) := ⟨_, hide rfl⟩
  obtain ⟨x1, HX1⟩ : ∃ x : Nat, Hid (p.getD 1 0 = x) := ⟨_, hide rfl⟩
  obtain ⟨x2, HX2⟩ : ∃ x : Nat, Hid (p.getD 2 0 = x) := ⟨_, hide rfl⟩
  have hst : waV p (l + 1) o t = .agg #[.int .i64 (x0 : Nat), .int .i64 (x1 : Nat), .int .i64 (x2 : Nat), .int .i64 L, .int .i64 (o : Nat), .int .i64 (t : Nat)] := by unfold waV waC; rw [HX0.out, HX1.out, HX2.out, hL]
  have hplv : plV p = .agg #[.int .i64 (x0 : Nat), .int .i64 (x1 : Nat), .int .i64 (x2 : Nat)] := by unfold plV plC; rw [HX0.out, HX1.out, HX2.out]
  have hstv : stV p (l + 1) = .agg #[.int .i64 (x0 : Nat), .int .i64 (x1 : Nat), .int .i64 (x2 : Nat), .int .i64 L] := by unfold stV stC; rw [HX0.out, HX1.out, HX2.out, hL]
  rw [hst] at HGV HPUT HLK ⊢
  rw [hplv] at HNX
  rw [hstv] at HCN
  clear hst hplv hstv hkl
  have hti : ((t : Int) == 0) = false := by simp; omega
  have hlo : ¬ (L < (o : Nat)) := by omega
  have hlt : ¬ (L < (t : Nat)) := by omega
  have ht1 : 1 ≤ t := by omega
  have HE3 := hide hEE
  clear hEE hlow hz
  generalize hE : Tm.endsP Wn jo jt (l + 1) (Tm.remP (lts ts) p) o t = E at *
  replace hE := hide hE
  have hMlt := hR.lt.2
  have hRlt := hR.lt.1
  have HST0 := hide hR.str
  have hKlt0 := hK.lt
  have j0 := hJ.c0
  have jl := hJ.lt
  have n1 : w.heap.size ≠ M := by omega
  have hMa : M < (w.alloc (.cells #[.int .i64 (x0 : Nat), .int .i64 (x1 : Nat), .int .i64 (x2 : Nat), .int .i64 L, .int .i64 (o : Nat), .int .i64 (t : Nat)] 127)).heap.size := by simp; omega
  have hRa : Reel R M (Wn : Nat) A ts cap (w.alloc (.cells #[.int .i64 (x0 : Nat), .int .i64 (x1 : Nat), .int .i64 (x2 : Nat), .int .i64 L, .int .i64 (o : Nat), .int .i64 (t : Nat)] 127)) := hR.below ((Below.refl _ _).alloc (Nat.le_refl _) _)
  generalize Tm.cntC Wn (l + 1) (Tm.remP (lts ts) p) = C at *
  have hCi : ((C : Int) == 0) = false := by simp; omega
  clear hpos hL
  unfold Gives2
  go_enter Try.func86, Try.ntmps86
  go_wp2
  have hbx := heap_alloc_new w (.cells #[.int .i64 (x0 : Nat), .int .i64 (x1 : Nat), .int .i64 (x2 : Nat), .int .i64 L, .int .i64 (o : Nat), .int .i64 (t : Nat)] 127)
  have hJa := hJ.below ((Below.refl _ w).alloc (Nat.le_refl _) (.cells #[.int .i64 (x0 : Nat), .int .i64 (x1 : Nat), .int .i64 (x2 : Nat), .int .i64 L, .int .i64 (o : Nat), .int .i64 (t : Nat)] 127))
  have hKa := hK.below ((Below.refl _ w).alloc (Nat.le_refl _) (.cells #[.int .i64 (x0 : Nat), .int .i64 (x1 : Nat), .int .i64 (x2 : Nat), .int .i64 L, .int .i64 (o : Nat), .int .i64 (t : Nat)] 127))
  have hbw : Below w.heap.size w (w.alloc (.cells #[.int .i64 (x0 : Nat), .int .i64 (x1 : Nat), .int .i64 (x2 : Nat), .int .i64 L, .int .i64 (o : Nat), .int .i64 (t : Nat)] 127)) := (Below.refl _ w).alloc (Nat.le_refl _) _
  have hza : (w.alloc (.cells #[.int .i64 (x0 : Nat), .int .i64 (x1 : Nat), .int .i64 (x2 : Nat), .int .i64 L, .int .i64 (o : Nat), .int .i64 (t : Nat)] 127)).heap.size = w.heap.size + 1 := by simp
  obtain ⟨Wb, hWb⟩ : ∃ Wb, (w.alloc (.cells #[.int .i64 (x0 : Nat), .int .i64 (x1 : Nat), .int .i64 (x2 : Nat), .int .i64 L, .int .i64 (o : Nat), .int .i64 (t : Nat)] 127)) = Wb := ⟨_, rfl⟩
  rw [hWb] at hMa hRa hbx hJa hKa hbw hza ⊢
  clear hWb
  have b0 := obj_at hbx 0 _ rfl
  have b1 := obj_at hbx 1 _ rfl
  have b2 := obj_at hbx 2 _ rfl
  have b3 := obj_at hbx 3 _ rfl
  have a0 := hJa.c0
  have nb : w.heap.size < Wb.heap.size := by omega
  have nj : J < Wb.heap.size := hJa.lt
  clear hza
  haveI : Nonempty (Gk Wb M (KMap 109 M (goodC Wn (lts ts)))) := nonempty_gk hMa hRa.km
  refine wp_region_gk (M := M) (K := (KMap 109 M (goodC Wn (lts ts)))) (by kernel_rfl) (by kernel_rfl) hMa (hKb.out _ _ (below_drew (Below.refl _ _)) hRa.km) ?_
  repeat (go_big_quiet_step ((go_at_call 75; refine GivesM.quiet hMa (HCN.out _ ?_); exact hRa.grown (gro_grown _ _ _) (by rw [Int.toNat_natCast]; exact Gk.ok (M := M) (K := (KMap 109 M (goodC Wn (lts ts)))) _))))
  refine wpQuiet_nil ?_
  rintro w3 ⟨g, hg⟩
  have hg3 : Wb.grownBy w3 (some M) := by rw [hg]; exact gro_grown _ _ _
  have hK3 : (KMap 109 M (goodC Wn (lts ts))) w3 := by rw [hg]; exact Gk.ok (M := M) (K := (KMap 109 M (goodC Wn (lts ts)))) g
  clear hg g
  have hz3 := hg3.size
  have hbx3 := (hg3.block _ nb (by simp; omega)).trans hbx
  have hJ3 := hJa.keep (hg3.block J nj (by simp; omega)) hz3
  have hKE3 := hKa.kept hg3 (by simp; omega)
  have hR3 := hRa.grown hg3 (by rw [Int.toNat_natCast]; exact hK3)
  have hG3 : Grown2 M K w w3 := (Grown2.below hbw).trans (Grown2.of hg3 (.inl rfl))
  have d3 := obj_at hbx3 3 _ rfl
  have d4 := obj_at hbx3 4 _ rfl
  have d5 := obj_at hbx3 5 _ rfl
  have nb3 : w.heap.size < w3.heap.size := by omega
  go_upto_region 3 with fail
  go_cut [19] (fun s19 wx => s19 = .bool false ∧ wx = w3)
  case first =>
    by_cases ho0 : o = 0
    · have hoi : ((o : Int) == 0) = true := by simp [ho0]
      clear ho0
      go_wp2
      go_meet
      exact ⟨rfl, rfl⟩
    · have hoi : ((o : Int) == 0) = false := by simp; omega
      clear ho0
      go_wp2
      go_meet
      exact ⟨rfl, rfl⟩
  case rest =>
    obtain ⟨rfl, rfl⟩ := hcut
    go_wp2
    have j3 := hJ3.c3
    have jc0 := hJ3.c0
    have jl3 := hJ3.lt
    have d0 := obj_at hbx3 0 _ rfl
    have d1 := obj_at hbx3 1 _ rfl
    have d2 := obj_at hbx3 2 _ rfl
    have hKl := hKE3.lt
    rcases HLK.out wc hKE3 with ⟨v, hgv, hrun⟩ | hrun
    · have hv := HGV.out v hgv
      subst hv
      have hrun2 : ∀ g, (Instr.lookup 122 (.map (some K)) (.agg #[.int .i64 (x0 : Nat), .int .i64 (x1 : Nat), .int .i64 (x2 : Nat), .int .i64 L, .int .i64 (o : Nat), .int .i64 (t : Nat)]) true).run Try.prog (wc.grow g) = .ok (.tuple #[.int .i64 (E : Nat), .bool true]) (wc.grow g) := fun g => hrun _ (heap_grow _ _ _ hKl)
      clear hrun
      refine wp_region_grow (by kernel_rfl) (by kernel_rfl) ?_
      repeat (go_big_quiet_step (fail))
      refine wpQuiet_nil ?_
      intro w4 hb4
      replace hb4 := ex_below hb4
      go_wp2
      go_ret
      exact ⟨rfl, hG3.trans (Grown2.below hb4), hKb.out _ _ hb4 hK3, hKE3.below hb4⟩
    · have hrun2 : ∀ g, (Instr.lookup 122 (.map (some K)) (.agg #[.int .i64 (x0 : Nat), .int .i64 (x1 : Nat), .int .i64 (x2 : Nat), .int .i64 L, .int .i64 (o : Nat), .int .i64 (t : Nat)]) true).run Try.prog (wc.grow g) = .ok (.tuple #[.int .i64 0, .bool false]) (wc.grow g) := fun g => hrun _ (heap_grow _ _ _ hKl)
      clear hrun
      refine wp_region_grow (by kernel_rfl) (by kernel_rfl) ?_
      repeat (go_big_quiet_step (fail))
      refine wpQuiet_nil ?_
      intro w4 hb4
      replace hb4 := ex_below hb4
      have hz4 := hb4.size
      have hbx4 := (hb4.block _ nb3).trans hbx3
      have hR4 := hR3.below hb4
      have hJ4 := hJ3.below hb4
      have hKE4 := hKE3.below hb4
      have hG4 : Grown2 M K w w4 := hG3.trans (Grown2.below hb4)
      clear hrun2 hb4 d0 d1 d2 d3 d4 d5 j3 jc0 hbx3 hJ3 hR3 hG3 hKE3 hg3 hK3 hbx hJa hKa hRa hMa hbw b0 b1 b2 b3 a0 HGV HLK HCN hCi
      have r0 := hR4.rat.1
      have rl := hR4.rat.2.2
      have jj0 := hJ4.c0
      have jj1 := hJ4.lt
      go_wp2
      go_loopw [7, 67] (fun n i wr => ∃ c : Nat, c ≤ Wn ∧ i = .int .i64 (c : Nat) ∧ n = .int .i64 (eFold Wn jo jt l (Tm.remP (lts ts) p) o t c : Nat) ∧ wr.heap[w.heap.size]? = some (.cells #[.int .i64 (x0 : Nat), .int .i64 (x1 : Nat), .int .i64 (x2 : Nat), .int .i64 L, .int .i64 (o : Nat), .int .i64 (t : Nat)] 127 (0, 0)) ∧ Reel R M (Wn : Nat) A ts cap wr ∧ JAt wr J R jo jt K ∧ (KMap 127 K (goodE Wn jo jt (lts ts))) wr ∧ Grown2 M K w wr) (fun _ i _ => Wn - (intOf i).toNat)
      case atStart => exact ⟨0, Nat.zero_le _, rfl, rfl, hbx4, hR4, hJ4, hKE4, hG4⟩
      case round =>
        obtain ⟨c, hc, rfl, rfl, hbx, hRr, hJr, hKr, hGr⟩ := hrel
        by_cases hcl : c < Wn
        · have hzr := hGr.size
          have HES := hide (eFold_succ Wn jo jt l (Tm.remP (lts ts) p) o t c)
          have hfl := eFold_lt Wn jo jt l (Tm.remP (lts ts) p) o t c
          have hel := endsP_lt Wn jo jt l (Tm.behs ((c : Nat) : Int) (Tm.remP (lts ts) p)) (Tm.oneZ jo jt (c : Nat) o t) (Tm.twoK jt (c : Nat) t)
          have HNc := hide (HNX.out c)
          have HIc := hide (HIH.out c)
          have HRc := HREM.out c
          rw [HRc] at HIc
          generalize Tm.remP (lts ts) p = rem at *
          generalize hfn : eFold Wn jo jt l rem o t c = fn at *
          replace hfn := hide hfn
          unfold plV plC at HNc
          unfold waV waC at HIc
          generalize (Tm.nextP (lts ts) p (c : Nat)).getD 0 0 = y0 at *
          generalize (Tm.nextP (lts ts) p (c : Nat)).getD 1 0 = y1 at *
          generalize (Tm.nextP (lts ts) p (c : Nat)).getD 2 0 = y2 at *
          have q0 := hJr.c0
          have q1 := hJr.c1
          have q2 := hJr.c2
          have ql := hJr.lt
          have b0 : wr.cell? ⟨w.heap.size, 0, none⟩ = some (.int .i64 (x0 : Nat)) := obj_at hbx 0 _ rfl
          have b1 : wr.cell? ⟨w.heap.size, 1, none⟩ = some (.int .i64 (x1 : Nat)) := obj_at hbx 1 _ rfl
          have b2 : wr.cell? ⟨w.heap.size, 2, none⟩ = some (.int .i64 (x2 : Nat)) := obj_at hbx 2 _ rfl
          have b3 : wr.cell? ⟨w.heap.size, 3, none⟩ = some (.int .i64 L) := obj_at hbx 3 _ rfl
          have b4 : wr.cell? ⟨w.heap.size, 4, none⟩ = some (.int .i64 (o : Nat)) := obj_at hbx 4 _ rfl
          have b5 : wr.cell? ⟨w.heap.size, 5, none⟩ = some (.int .i64 (t : Nat)) := obj_at hbx 5 _ rfl
          have hbl := (Array.getElem?_eq_some_iff.1 hbx).1
          have n2 : wr.heap.size ≠ w.heap.size := by omega
          have n3 : wr.heap.size ≠ J := by omega
          have hlw : IntKind.i64.wrap (l : Int) = (l : Int) := IntWalk.i64_in _ (by omega)
          go_upto_region 14 with fail
          go_cut [9] (fun sx wx => ∃ blk : Nat, sx = .pointer (some ⟨blk, 0, none⟩) ∧ wx.heap[blk]? = some (.cells #[.int .i64 (y0 : Nat), .int .i64 (y1 : Nat), .int .i64 (y2 : Nat), .int .i64 (l : Nat), .int .i64 (o : Nat), .int .i64 (t : Nat)] 127 (0, 0)) ∧ wr.heap.size ≤ blk ∧ Below wr.heap.size wr wx)
          case first =>
            (try clear HES); (try clear hfl); (try clear hel); (try clear HIc); (try clear HRc); (try clear HPUT); (try clear HE3); (try clear hE); (try clear HIH); (try clear HREM); (try clear HNX); (try clear hKb); (try clear hfn); (try clear hK); (try clear hR); (try clear hJ); (try clear hKr); (try clear hGr); (try clear hbx); (try clear hJr); (try clear hR4); (try clear hJ4); (try clear hKE4); (try clear hG4); (try clear hbx4); (try clear hp); (try clear HX0); (try clear HX1); (try clear HX2); (try clear hMlt); (try clear hRlt); (try clear j0); (try clear jl); (try clear n1); (try clear r0); (try clear rl); (try clear jj0); (try clear jj1); (try clear hz4); (try clear hz3); (try clear nb3); (try clear nj); (try clear nb); (try clear hcl); (try clear hc); (try clear hti); (try clear hlo); (try clear hlt); (try clear ht1); (try clear hKl); (try clear jl3); (try clear h1); (try clear h2); (try clear hz); (try clear ho); (try clear ht); (try clear hl); (try clear h3); (try clear hf); (try clear hs); (try clear hKM); (try clear hRK); (try clear hAK); (try clear hJM); (try clear hJK); (try clear hW1); (try clear hW2); (try clear q1); (try clear q2)
            refine wp_region_noPanic ?_
            refine wp_region_held_drew (S := fun w' => w'.cell? ⟨J, 0, none⟩ = some (.pointer (some ⟨R, 0, none⟩)) ∧ w'.cell? ⟨w.heap.size, 0, none⟩ = some (.int .i64 (x0 : Nat)) ∧ w'.cell? ⟨w.heap.size, 1, none⟩ = some (.int .i64 (x1 : Nat)) ∧ w'.cell? ⟨w.heap.size, 2, none⟩ = some (.int .i64 (x2 : Nat)) ∧ w'.cell? ⟨w.heap.size, 3, none⟩ = some (.int .i64 L) ∧ w'.cell? ⟨w.heap.size, 4, none⟩ = some (.int .i64 (o : Nat)) ∧ w'.cell? ⟨w.heap.size, 5, none⟩ = some (.int .i64 (t : Nat))) (by kernel_rfl) ⟨q0, b0, b1, b2, b3, b4, b5⟩ (fun hHeld => ?_)
            refine wpAnyH_take (i := 0) (v := ?_) rfl (by kernel_rfl) (by kernel_rfl) (by kernel_rfl) (fun _ _ _ h => h) (Or.inl ⟨by rfl, ?_⟩) (by assumption) ?_
            rotate_left
            · (intro w hSw; obtain ⟨g1, g2, g3, g4, g5, g6, g7⟩ := hSw; go_simp; try with_reducible rfl)
            (try simp only [Act.put, List.getElem_toArray, List.getElem_cons_zero, List.getElem_cons_succ, List.setIfInBounds_toArray, List.set_cons_zero, List.set_cons_succ])
            refine wpAnyH_take (i := 1) (v := ?_) rfl (by kernel_rfl) (by kernel_rfl) (by kernel_rfl) (fun _ _ _ h => h) (Or.inl ⟨by rfl, ?_⟩) (by assumption) ?_
            rotate_left
            · (intro w hSw; obtain ⟨g1, g2, g3, g4, g5, g6, g7⟩ := hSw; go_simp; try with_reducible rfl)
            (try simp only [Act.put, List.getElem_toArray, List.getElem_cons_zero, List.getElem_cons_succ, List.setIfInBounds_toArray, List.set_cons_zero, List.set_cons_succ])
            refine wpAnyH_take (i := 2) (v := ?_) rfl (by kernel_rfl) (by kernel_rfl) (by kernel_rfl) (fun _ _ _ h => h) (Or.inl ⟨by rfl, ?_⟩) (by assumption) ?_
            rotate_left
            · (intro w hSw; obtain ⟨g1, g2, g3, g4, g5, g6, g7⟩ := hSw; go_simp; try with_reducible rfl)
            (try simp only [Act.put, List.getElem_toArray, List.getElem_cons_zero, List.getElem_cons_succ, List.setIfInBounds_toArray, List.set_cons_zero, List.set_cons_succ])
            refine wpAnyH_take (i := 3) (v := ?_) rfl (by kernel_rfl) (by kernel_rfl) (by kernel_rfl) (fun _ _ _ h => h) (Or.inl ⟨by rfl, ?_⟩) (by assumption) ?_
            rotate_left
            · (intro w hSw; obtain ⟨g1, g2, g3, g4, g5, g6, g7⟩ := hSw; go_simp; try with_reducible rfl)
            (try simp only [Act.put, List.getElem_toArray, List.getElem_cons_zero, List.getElem_cons_succ, List.setIfInBounds_toArray, List.set_cons_zero, List.set_cons_succ])
            refine wpAnyH_take (i := 4) (v := ?_) rfl (by kernel_rfl) (by kernel_rfl) (by kernel_rfl) (fun _ _ _ h => h) (Or.inl ⟨by rfl, ?_⟩) (by assumption) ?_
            rotate_left
            · (intro w hSw; obtain ⟨g1, g2, g3, g4, g5, g6, g7⟩ := hSw; go_simp; try with_reducible rfl)
            (try simp only [Act.put, List.getElem_toArray, List.getElem_cons_zero, List.getElem_cons_succ, List.setIfInBounds_toArray, List.set_cons_zero, List.set_cons_succ])
            refine wpAnyH_take (i := 5) (v := ?_) rfl (by kernel_rfl) (by kernel_rfl) (by kernel_rfl) (fun _ _ _ h => h) (Or.inl ⟨by rfl, ?_⟩) (by assumption) ?_
            rotate_left
            · (intro w hSw; obtain ⟨g1, g2, g3, g4, g5, g6, g7⟩ := hSw; go_simp; try with_reducible rfl)
            (try simp only [Act.put, List.getElem_toArray, List.getElem_cons_zero, List.getElem_cons_succ, List.setIfInBounds_toArray, List.set_cons_zero, List.set_cons_succ])
            refine wpAnyH_take (i := 6) (v := ?_) rfl (by kernel_rfl) (by kernel_rfl) (by kernel_rfl) (fun _ _ _ h => h) (Or.inl ⟨by rfl, ?_⟩) (by assumption) ?_
            rotate_left
            · (intro w hSw; obtain ⟨g1, g2, g3, g4, g5, g6, g7⟩ := hSw; go_simp; try with_reducible rfl)
            (try simp only [Act.put, List.getElem_toArray, List.getElem_cons_zero, List.getElem_cons_succ, List.setIfInBounds_toArray, List.set_cons_zero, List.set_cons_succ])
            refine wpAnyH_take (i := 7) (v := ?_) rfl (by kernel_rfl) (by kernel_rfl) (by kernel_rfl) (fun _ _ _ h => h) (Or.inl ⟨by rfl, ?_⟩) (by assumption) ?_
            rotate_left
            · (intro w hSw; obtain ⟨g1, g2, g3, g4, g5, g6, g7⟩ := hSw; go_simp; try with_reducible rfl)
            (try simp only [Act.put, List.getElem_toArray, List.getElem_cons_zero, List.getElem_cons_succ, List.setIfInBounds_toArray, List.set_cons_zero, List.set_cons_succ])
            refine wpAnyH_take (i := 9) (v := ?_) rfl (by kernel_rfl) (by kernel_rfl) (by kernel_rfl) (fun _ _ _ h => h) (Or.inl ⟨by rfl, ?_⟩) (by assumption) ?_
            rotate_left
            · (intro w hSw; obtain ⟨g1, g2, g3, g4, g5, g6, g7⟩ := hSw; go_simp; try with_reducible rfl)
            (try simp only [Act.put, List.getElem_toArray, List.getElem_cons_zero, List.getElem_cons_succ, List.setIfInBounds_toArray, List.set_cons_zero, List.set_cons_succ])
            refine wpAnyH_take (i := 10) (v := ?_) rfl (by kernel_rfl) (by kernel_rfl) (by kernel_rfl) (fun _ _ _ h => h) (Or.inl ⟨by rfl, ?_⟩) (by assumption) ?_
            rotate_left
            · (intro w hSw; obtain ⟨g1, g2, g3, g4, g5, g6, g7⟩ := hSw; go_simp; try with_reducible rfl)
            (try simp only [Act.put, List.getElem_toArray, List.getElem_cons_zero, List.getElem_cons_succ, List.setIfInBounds_toArray, List.set_cons_zero, List.set_cons_succ])
            refine wpAnyH_take (i := 11) (v := ?_) rfl (by kernel_rfl) (by kernel_rfl) (by kernel_rfl) (fun _ _ _ h => h) (Or.inl ⟨by rfl, ?_⟩) (by assumption) ?_
            rotate_left
            · (intro w hSw; obtain ⟨g1, g2, g3, g4, g5, g6, g7⟩ := hSw; go_simp; try with_reducible rfl)
            (try simp only [Act.put, List.getElem_toArray, List.getElem_cons_zero, List.getElem_cons_succ, List.setIfInBounds_toArray, List.set_cons_zero, List.set_cons_succ])
            refine wpAnyH_take (i := 12) (v := ?_) rfl (by kernel_rfl) (by kernel_rfl) (by kernel_rfl) (fun _ _ _ h => h) (Or.inl ⟨by rfl, ?_⟩) (by assumption) ?_
            rotate_left
            · (intro w hSw; obtain ⟨g1, g2, g3, g4, g5, g6, g7⟩ := hSw; go_simp; try with_reducible rfl)
            (try simp only [Act.put, List.getElem_toArray, List.getElem_cons_zero, List.getElem_cons_succ, List.setIfInBounds_toArray, List.set_cons_zero, List.set_cons_succ])
            refine wpAnyH_take (i := 14) (v := ?_) rfl (by kernel_rfl) (by kernel_rfl) (by kernel_rfl) (fun _ _ _ h => h) (Or.inl ⟨by rfl, ?_⟩) (by assumption) ?_
            rotate_left
            · (intro w hSw; obtain ⟨g1, g2, g3, g4, g5, g6, g7⟩ := hSw; go_simp; try with_reducible rfl)
            (try simp only [Act.put, List.getElem_toArray, List.getElem_cons_zero, List.getElem_cons_succ, List.setIfInBounds_toArray, List.set_cons_zero, List.set_cons_succ])
            refine wpAnyH_take (i := 15) (v := ?_) rfl (by kernel_rfl) (by kernel_rfl) (by kernel_rfl) (fun _ _ _ h => h) (Or.inl ⟨by rfl, ?_⟩) (by assumption) ?_
            rotate_left
            · (intro w hSw; obtain ⟨g1, g2, g3, g4, g5, g6, g7⟩ := hSw; go_simp; try with_reducible rfl)
            (try simp only [Act.put, List.getElem_toArray, List.getElem_cons_zero, List.getElem_cons_succ, List.setIfInBounds_toArray, List.set_cons_zero, List.set_cons_succ])
            refine wpAnyH_take (i := 16) (v := ?_) rfl (by kernel_rfl) (by kernel_rfl) (by kernel_rfl) (fun _ _ _ h => h) (Or.inl ⟨by rfl, ?_⟩) (by assumption) ?_
            rotate_left
            · (intro w hSw; obtain ⟨g1, g2, g3, g4, g5, g6, g7⟩ := hSw; go_simp; try with_reducible rfl)
            (try simp only [Act.put, List.getElem_toArray, List.getElem_cons_zero, List.getElem_cons_succ, List.setIfInBounds_toArray, List.set_cons_zero, List.set_cons_succ])
            refine wpAnyH_take (i := 17) (v := ?_) rfl (by kernel_rfl) (by kernel_rfl) (by kernel_rfl) (fun _ _ _ h => h) (Or.inl ⟨by rfl, ?_⟩) (by assumption) ?_
            rotate_left
            · (intro w hSw; obtain ⟨g1, g2, g3, g4, g5, g6, g7⟩ := hSw; go_simp; try with_reducible rfl)
            (try simp only [Act.put, List.getElem_toArray, List.getElem_cons_zero, List.getElem_cons_succ, List.setIfInBounds_toArray, List.set_cons_zero, List.set_cons_succ])
            refine wpAnyH_ready (rs := [8, 19]) (by kernel_rfl) (by simp) ?_
            refine AllReadyH.cons rfl ?_ ?_
            · intro K' hK
              rw [if_pos (by rfl)]
              go_simp
              refine (HNc.out _ (hRr.below (below_drew (Below.refl _ _)))).mono ?_
              rintro e w3 ⟨rfl, hb3⟩
              replace hb3 := ex_below hb3
              have hbw3 : Below wr.heap.size wr w3 := (below_drew (Below.refl _ _)).trans hb3
              dsimp only
              refine hK.out _ _ (by exact ⟨keepB hb3 hHeld.1, keepB hb3 hHeld.2.1, keepB hb3 hHeld.2.2.1, keepB hb3 hHeld.2.2.2.1, keepB hb3 hHeld.2.2.2.2.1, keepB hb3 hHeld.2.2.2.2.2.1, keepB hb3 hHeld.2.2.2.2.2.2⟩) (fun hHeld => ?_)
              clear hK K'
              (try simp only [Act.put, List.getElem_toArray, List.getElem_cons_zero, List.getElem_cons_succ, List.setIfInBounds_toArray, List.set_cons_zero, List.set_cons_succ])
              refine wpAnyH_take (i := 13) (v := ?_) rfl (by kernel_rfl) (by kernel_rfl) (by kernel_rfl) (fun _ _ _ h => h) (Or.inl ⟨by rfl, ?_⟩) (by assumption) ?_
              rotate_left
              · (intro w hSw; obtain ⟨g1, g2, g3, g4, g5, g6, g7⟩ := hSw; go_simp; try with_reducible rfl)
              (try simp only [Act.put, List.getElem_toArray, List.getElem_cons_zero, List.getElem_cons_succ, List.setIfInBounds_toArray, List.set_cons_zero, List.set_cons_succ])
              refine wpAnyH_take (i := 18) (v := ?_) rfl (by kernel_rfl) (by kernel_rfl) (by kernel_rfl) (fun _ _ _ h => h) (Or.inl ⟨by rfl, ?_⟩) (by assumption) ?_
              rotate_left
              · (intro w hSw; obtain ⟨g1, g2, g3, g4, g5, g6, g7⟩ := hSw; go_simp; try with_reducible rfl)
              (try simp only [Act.put, List.getElem_toArray, List.getElem_cons_zero, List.getElem_cons_succ, List.setIfInBounds_toArray, List.set_cons_zero, List.set_cons_succ])
              refine wpAnyH_ready (rs := [19]) (by kernel_rfl) (by simp) ?_
              refine AllReadyH.cons rfl ?_ ?_
              · intro K' hK
                rw [if_pos (by rfl)]
                go_simp
                refine hK.out _ _ (by exact ⟨cell?_alloc_some _ hHeld.1, cell?_alloc_some _ hHeld.2.1, cell?_alloc_some _ hHeld.2.2.1, cell?_alloc_some _ hHeld.2.2.2.1, cell?_alloc_some _ hHeld.2.2.2.2.1, cell?_alloc_some _ hHeld.2.2.2.2.2.1, cell?_alloc_some _ hHeld.2.2.2.2.2.2⟩) (fun hHeld => ?_)
                clear hK K'
                (try simp only [Act.put, List.getElem_toArray, List.getElem_cons_zero, List.getElem_cons_succ, List.setIfInBounds_toArray, List.set_cons_zero, List.set_cons_succ])
                refine wpAnyH_ready (rs := [20]) (by kernel_rfl) (by simp) ?_
                refine AllReadyH.cons rfl ?_ ?_
                · intro K' hK
                  rw [if_pos (by rfl)]
                  go_simp
                  refine hK.out _ _ (by exact ⟨cell?_alloc_some _ (keepB hb3 (drew0 q0)), cell?_alloc_some _ (keepB hb3 (drew0 b0)), cell?_alloc_some _ (keepB hb3 (drew0 b1)), cell?_alloc_some _ (keepB hb3 (drew0 b2)), cell?_alloc_some _ (keepB hb3 (drew0 b3)), cell?_alloc_some _ (keepB hb3 (drew0 b4)), cell?_alloc_some _ (keepB hb3 (drew0 b5))⟩) (fun hHeld => ?_)
                  clear hK K'
                  (try simp only [Act.put, List.getElem_toArray, List.getElem_cons_zero, List.getElem_cons_succ, List.setIfInBounds_toArray, List.set_cons_zero, List.set_cons_succ])
                  refine wpAnyH_done (by kernel_rfl) ?_ _
                  refine NoPanic.normal ?_
                  go_wp2_with fail
                  go_meet
                  exact ⟨_, rfl, heap_alloc_new _ _, hbw3.size, below_alloc hbw3 hbw3.size _⟩
                exact AllReadyH.nil
              exact AllReadyH.nil
            refine AllReadyH.cons rfl ?_ ?_
            · intro K' hK
              rw [if_pos (by rfl)]
              go_simp
              refine hK.out _ _ (by exact ⟨cell?_alloc_some _ hHeld.1, cell?_alloc_some _ hHeld.2.1, cell?_alloc_some _ hHeld.2.2.1, cell?_alloc_some _ hHeld.2.2.2.1, cell?_alloc_some _ hHeld.2.2.2.2.1, cell?_alloc_some _ hHeld.2.2.2.2.2.1, cell?_alloc_some _ hHeld.2.2.2.2.2.2⟩) (fun hHeld => ?_)
              clear hK K'
              (try simp only [Act.put, List.getElem_toArray, List.getElem_cons_zero, List.getElem_cons_succ, List.setIfInBounds_toArray, List.set_cons_zero, List.set_cons_succ])
              refine wpAnyH_ready (rs := [8]) (by kernel_rfl) (by simp) ?_
              refine AllReadyH.cons rfl ?_ ?_
              · intro K' hK
                rw [if_pos (by rfl)]
                go_simp
                refine (HNc.out _ (hRr.below (by first | exact below_drew (below_alloc (Below.refl _ _) (Nat.le_refl _) _) | exact below_alloc (below_drew (Below.refl _ _)) (Nat.le_refl _) _))).mono ?_
                rintro e w3 ⟨rfl, hb3⟩
                replace hb3 := ex_below hb3
                have hbw3 : Below wr.heap.size wr w3 := below_step (below_drew (below_alloc (Below.refl _ wr) (Nat.le_refl _) _)) hb3 (by show wr.heap.size ≤ (wr.alloc _).heap.size; rw [World.size_alloc]; exact Nat.le_succ _)
                have hf3 := own_frozen hb3 (b := wr.heap.size) (by show wr.heap.size < (wr.alloc _).heap.size; rw [World.size_alloc]; exact Nat.lt_succ_self _)
                have hd3 := own_cell hb3 (b := wr.heap.size) (by show wr.heap.size < (wr.alloc _).heap.size; rw [World.size_alloc]; exact Nat.lt_succ_self _)
                dsimp only
                refine hK.out _ _ (by exact ⟨keepB hb3 hHeld.1, keepB hb3 hHeld.2.1, keepB hb3 hHeld.2.2.1, keepB hb3 hHeld.2.2.2.1, keepB hb3 hHeld.2.2.2.2.1, keepB hb3 hHeld.2.2.2.2.2.1, keepB hb3 hHeld.2.2.2.2.2.2⟩) (fun hHeld => ?_)
                clear hK K'
                (try simp only [Act.put, List.getElem_toArray, List.getElem_cons_zero, List.getElem_cons_succ, List.setIfInBounds_toArray, List.set_cons_zero, List.set_cons_succ])
                refine wpAnyH_take (i := 13) (v := ?_) rfl (by kernel_rfl) (by kernel_rfl) (by kernel_rfl) (fun _ _ _ h => h) (Or.inl ⟨by rfl, ?_⟩) (by assumption) ?_
                rotate_left
                · (intro w hSw; obtain ⟨g1, g2, g3, g4, g5, g6, g7⟩ := hSw; go_simp; try with_reducible rfl)
                (try simp only [Act.put, List.getElem_toArray, List.getElem_cons_zero, List.getElem_cons_succ, List.setIfInBounds_toArray, List.set_cons_zero, List.set_cons_succ])
                refine wpAnyH_take (i := 18) (v := ?_) rfl (by kernel_rfl) (by kernel_rfl) (by kernel_rfl) (fun _ _ _ h => h) (Or.inl ⟨by rfl, ?_⟩) (by assumption) ?_
                rotate_left
                · (intro w hSw; obtain ⟨g1, g2, g3, g4, g5, g6, g7⟩ := hSw; go_simp; try with_reducible rfl)
                (try simp only [Act.put, List.getElem_toArray, List.getElem_cons_zero, List.getElem_cons_succ, List.setIfInBounds_toArray, List.set_cons_zero, List.set_cons_succ])
                refine wpAnyH_ready (rs := [20]) (by kernel_rfl) (by simp) ?_
                refine AllReadyH.cons rfl ?_ ?_
                · intro K' hK
                  rw [if_pos (by rfl)]
                  go_simp
                  refine hK.out _ _ (by exact ⟨kset6 (Ne.symm n3) hHeld.1, kset6 (Ne.symm n2) hHeld.2.1, kset6 (Ne.symm n2) hHeld.2.2.1, kset6 (Ne.symm n2) hHeld.2.2.2.1, kset6 (Ne.symm n2) hHeld.2.2.2.2.1, kset6 (Ne.symm n2) hHeld.2.2.2.2.2.1, kset6 (Ne.symm n2) hHeld.2.2.2.2.2.2⟩) (fun hHeld => ?_)
                  clear hK K'
                  (try simp only [Act.put, List.getElem_toArray, List.getElem_cons_zero, List.getElem_cons_succ, List.setIfInBounds_toArray, List.set_cons_zero, List.set_cons_succ])
                  refine wpAnyH_done (by kernel_rfl) ?_ _
                  refine NoPanic.normal ?_
                  go_wp2_with fail
                  go_meet
                  refine ⟨_, rfl, set_six ((hb3.block wr.heap.size (by show wr.heap.size < (wr.alloc _).heap.size; rw [World.size_alloc]; exact Nat.lt_succ_self _)).trans (heap_alloc_new wr _)), Nat.le_refl _, ?_⟩
                  repeat (first | exact hbw3 | refine below_set0 ?_ (Nat.le_refl _))
                exact AllReadyH.nil
              exact AllReadyH.nil
            exact AllReadyH.nil
          case rest =>
            obtain ⟨blk, rfl, hto, hblk, hbc⟩ := hcut
            have htl := (Array.getElem?_eq_some_iff.1 hto).1
            have hzc := hbc.size
            have p1 := (hbc.cell (p := ⟨J, 1, none⟩) ql).trans q1
            have p2 := (hbc.cell (p := ⟨J, 2, none⟩) ql).trans q2
            have hbx5 := (hbc.block w.heap.size hbl).trans hbx
            have pb4 := obj_at hbx5 4 _ rfl
            have t4 := obj_at hto 4 _ rfl
            have t5 := obj_at hto 5 _ rfl
            have qlc : J < wc.heap.size := by omega
            have hblc : w.heap.size < wc.heap.size := by omega
            have hRc := hRr.below hbc
            have hJc := hJr.below hbc
            have hKc := hKr.below hbc
            have hGc := hGr.trans (Grown2.below hbc)
            obtain ⟨bA, hbA⟩ : ∃ bA : Bool, decide ((c : Int) = jo ∧ 0 < o) = bA := ⟨_, rfl⟩
            have HBA := hide hbA
            clear hbA
            clear q0 q1 q2 ql b0 b1 b2 b3 b4 b5 hbx hRr hJr hKr hGr
            go_upto_region 15 with fail
            go_cut [99] (fun s99 wx => s99 = .bool bA ∧ wx = wc)
            case first =>
              by_cases hcj : (c : Int) = jo
              · have hcji : ((c : Int) == jo) = true := by simp [hcj]
                by_cases ho0 : 0 < o
                · have hoi : (0 : Int) < (o : Nat) := by omega
                  have hv : bA = true := by rw [← HBA.out]; simp [hcj, ho0]
                  subst hv
                  clear hcj
                  go_wp2
                  go_meet
                  exact ⟨rfl, rfl⟩
                · have hoi : ¬ ((0 : Int) < (o : Nat)) := by omega
                  have hv : bA = false := by rw [← HBA.out]; simp [ho0]
                  subst hv
                  clear hcj
                  go_wp2
                  go_meet
                  exact ⟨rfl, rfl⟩
              · have hcji : ((c : Int) == jo) = false := by simp [hcj]
                have hv : bA = false := by rw [← HBA.out]; simp [hcj]
                subst hv
                clear hcj
                go_wp2
                go_meet
                exact ⟨rfl, rfl⟩
            case rest =>
              obtain ⟨rfl, rfl⟩ := hcut
              obtain ⟨I, hI⟩ : ∃ I : World → Prop, I = fun X => X.heap[w.heap.size]? = some (.cells #[.int .i64 (x0 : Nat), .int .i64 (x1 : Nat), .int .i64 (x2 : Nat), .int .i64 L, .int .i64 (o : Nat), .int .i64 (t : Nat)] 127 (0, 0)) ∧ Reel R M (Wn : Nat) A ts cap X ∧ JAt X J R jo jt K ∧ (KMap 127 K (goodE Wn jo jt (lts ts))) X ∧ Grown2 M K w X := ⟨_, rfl⟩
              have hIw : I wc := by rw [hI]; exact ⟨hbx5, hRc, hJc, hKc, hGc⟩
              have HSI := hide (fun (X : World) (k : Nat) (v : Value) (h : I X) => (show I (X.setCell ⟨blk, k, none⟩ v) by
                rw [hI] at h ⊢
                obtain ⟨g1, g2, g3, g4, g5⟩ := h
                refine ⟨(Below.heap_setCell _ _ _ _ (by show w.heap.size ≠ blk; go_light; omega)).trans g1, g2.set _ _ (by go_light; show R ≠ blk; omega) (by go_light; show M ≠ blk; omega) (fun k s hk => ?_), g3.keep (Below.heap_setCell _ _ _ _ (by go_light; show J ≠ blk; omega)) (by simp), g4.setCell _ (by go_light; show K ≠ blk; omega) _, g5.set _ (by go_light; show w.heap.size ≤ blk; omega) _⟩
                obtain ⟨b, off, e, e2, _⟩ := HST0.out k s hk
                exact ⟨b, off, e, by go_light; show b ≠ blk; omega⟩))
              have HI := hide hI
              clear hI hbx5 hRc hJc hKc hGc
              obtain ⟨o1, ho1⟩ : ∃ o1 : Nat, (if bA = true then o - 1 else o) = o1 := ⟨_, rfl⟩
              obtain ⟨t1, ht1'⟩ : ∃ t1 : Nat, (if (c : Int) = jt then t - 1 else t) = t1 := ⟨_, rfl⟩
              have HO1 := hide ho1
              have HT1 := hide ht1'
              clear ho1 ht1'
              go_upto_if 99 with fail
              go_cut [] (fun wx => wx.heap[blk]? = some (.cells #[.int .i64 (y0 : Nat), .int .i64 (y1 : Nat), .int .i64 (y2 : Nat), .int .i64 (l : Nat), .int .i64 (o1 : Nat), .int .i64 (t : Nat)] 127 (0, 0)) ∧ I wx)
              case first =>
                have hf4 := obj_fz hto 4
                cases bA with
                | true =>
                  have hop : 0 < o := (of_decide_eq_true HBA.out).2
                  have ho1 := hide (show ((o1 : Nat) : Int) = (o : Int) - 1 by go_light; have := HO1.out; rw [if_pos rfl] at this; omega)
                  go_wp2
                  go_meet
                  rw [ho1.out]
                  exact ⟨set_obj hto 4 _, HSI.out _ 4 _ hIw⟩
                | false =>
                  have ho1 := hide (show o1 = o by go_light; have := HO1.out; rw [if_neg (by simp)] at this; omega)
                  go_wp2
                  go_meet
                  rw [ho1.out]
                  exact ⟨hto, hIw⟩
              case rest =>
                clear hto t4 t5 p1 p2 pb4 hIw htl qlc hblc
                have hJx : JAt wc J R jo jt K := by have := hcut.2; rw [HI.out] at this; exact this.2.2.1
                have hbxx : wc.heap[w.heap.size]? = some (.cells #[.int .i64 (x0 : Nat), .int .i64 (x1 : Nat), .int .i64 (x2 : Nat), .int .i64 L, .int .i64 (o : Nat), .int .i64 (t : Nat)] 127 (0, 0)) := by have := hcut.2; rw [HI.out] at this; exact this.1
                have p2 := hJx.c2
                have qlc := hJx.lt
                have pb4 := obj_at hbxx 4 _ rfl
                have hblc := (Array.getElem?_eq_some_iff.1 hbxx).1
                obtain ⟨hto, hIw⟩ := hcut
                have htl := (Array.getElem?_eq_some_iff.1 hto).1
                have t4 := obj_at hto 4 _ rfl
                have t5 := obj_at hto 5 _ rfl
                have hf4 := obj_fz hto 4
                have hf5 := obj_fz hto 5
                have hO1le : o1 ≤ o := by go_light; have := HO1.out; split at this <;> omega
                go_upto_if 109 with fail
                go_cut [] (fun wx => wx.heap[blk]? = some (.cells #[.int .i64 (y0 : Nat), .int .i64 (y1 : Nat), .int .i64 (y2 : Nat), .int .i64 (l : Nat), .int .i64 (o1 : Nat), .int .i64 (t1 : Nat)] 127 (0, 0)) ∧ I wx)
                case first =>
                  by_cases hcj : (c : Int) = jt
                  · have hcji : ((c : Int) == jt) = true := by simp [hcj]
                    have ht1 := hide (show ((t1 : Nat) : Int) = (t : Int) - 1 by go_light; have := HT1.out; rw [if_pos hcj] at this; omega)
                    clear hcj
                    go_wp2
                    go_meet
                    rw [ht1.out]
                    exact ⟨set_obj hto 5 _, HSI.out _ 5 _ hIw⟩
                  · have hcji : ((c : Int) == jt) = false := by simp [hcj]
                    have ht1 := hide (show t1 = t by go_light; have := HT1.out; rw [if_neg hcj] at this; omega)
                    clear hcj
                    go_wp2
                    go_meet
                    rw [ht1.out]
                    exact ⟨hto, hIw⟩
                case rest =>
                  skip
                  clear hto t4 t5 p2 pb4 hIw htl qlc hblc hf4 hf5 hJx hbxx
                  have hJx : JAt wc J R jo jt K := by have := hcut.2; rw [HI.out] at this; exact this.2.2.1
                  have hbxx : wc.heap[w.heap.size]? = some (.cells #[.int .i64 (x0 : Nat), .int .i64 (x1 : Nat), .int .i64 (x2 : Nat), .int .i64 L, .int .i64 (o : Nat), .int .i64 (t : Nat)] 127 (0, 0)) := by have := hcut.2; rw [HI.out] at this; exact this.1
                  have p2 := hJx.c2
                  have qlc := hJx.lt
                  have pb4 := obj_at hbxx 4 _ rfl
                  have hblc := (Array.getElem?_eq_some_iff.1 hbxx).1
                  obtain ⟨hto, hIw⟩ := hcut
                  have htl := (Array.getElem?_eq_some_iff.1 hto).1
                  have t4 := obj_at hto 4 _ rfl
                  have t5 := obj_at hto 5 _ rfl
                  have hf4 := obj_fz hto 4
                  have hf5 := obj_fz hto 5
                  have hT1le : t1 ≤ t := by go_light; have := HT1.out; split at this <;> omega
                  obtain ⟨bZ, hbZ⟩ : ∃ bZ : Bool, decide (o1 = 0 ∧ t1 = 0 ∧ 0 < o) = bZ := ⟨_, rfl⟩
                  have HBZ := hide hbZ
                  clear hbZ
                  go_upto_region 19 with fail
                  go_cut [126] (fun s126 wx => s126 = .bool bZ ∧ wx = wc)
                  case first =>
                    by_cases h1z : o1 = 0
                    · have h1i : ((o1 : Int) == 0) = true := by simp [h1z]
                      by_cases h2z : t1 = 0
                      · have h2i : ((t1 : Int) == 0) = true := by simp [h2z]
                        by_cases h3z : 0 < o
                        · have h3i : (0 : Int) < (o : Nat) := by go_light; omega
                          have hv : bZ = true := by rw [← HBZ.out]; simp [h1z, h2z, h3z]
                          subst hv
                          clear h1z h2z
                          go_wp2
                          go_meet
                          exact ⟨rfl, rfl⟩
                        · have h3i : ¬ ((0 : Int) < (o : Nat)) := by go_light; omega
                          have hv : bZ = false := by rw [← HBZ.out]; simp [h3z]
                          subst hv
                          clear h1z h2z
                          go_wp2
                          go_meet
                          exact ⟨rfl, rfl⟩
                      · have h2i : ((t1 : Int) == 0) = false := by simp [h2z]
                        have hv : bZ = false := by rw [← HBZ.out]; simp [h2z]
                        subst hv
                        clear h1z
                        go_wp2
                        go_meet
                        exact ⟨rfl, rfl⟩
                    · have h1i : ((o1 : Int) == 0) = false := by simp [h1z]
                      have hv : bZ = false := by rw [← HBZ.out]; simp [h1z]
                      subst hv
                      go_wp2
                      go_meet
                      exact ⟨rfl, rfl⟩
                  case rest =>
                    obtain ⟨rfl, rfl⟩ := hcut
                    obtain ⟨o2, ho2⟩ : ∃ o2 : Nat, (if bZ = true then 1 else o1) = o2 := ⟨_, rfl⟩
                    have HO2 := hide ho2
                    clear ho2
                    go_upto_if 126 with fail
                    go_cut [] (fun wx => wx.heap[blk]? = some (.cells #[.int .i64 (y0 : Nat), .int .i64 (y1 : Nat), .int .i64 (y2 : Nat), .int .i64 (l : Nat), .int .i64 (o2 : Nat), .int .i64 (t1 : Nat)] 127 (0, 0)) ∧ I wx)
                    case first =>
                      cases bZ with
                      | true =>
                        have ho2 := hide (show o2 = 1 by go_light; have := HO2.out; rw [if_pos rfl] at this; omega)
                        go_wp2
                        go_meet
                        rw [ho2.out]
                        exact ⟨set_obj hto 4 _, HSI.out _ 4 _ hIw⟩
                      | false =>
                        have ho2 := hide (show o2 = o1 by go_light; have := HO2.out; rw [if_neg (by simp)] at this; omega)
                        go_wp2
                        go_meet
                        rw [ho2.out]
                        exact ⟨hto, hIw⟩
                    case rest =>
                      clear t4 t5 p2 pb4 hIw hf4 hf5 hJx hbxx hto htl qlc hblc
                      have hZ1 : o2 = Tm.oneZ jo jt (c : Nat) o t := by
                        have e1 : o1 = Tm.oneK jo (c : Nat) o := by
                          have h1 := HO1.out
                          have h2 := HBA.out
                          unfold Tm.oneK
                          by_cases h : (c : Int) = jo ∧ 0 < o
                          · rw [decide_eq_true h] at h2
                            rw [if_pos h2.symm] at h1
                            rw [if_pos h]; exact h1.symm
                          · rw [decide_eq_false h] at h2
                            rw [← h2, if_neg (by simp)] at h1
                            rw [if_neg h]; exact h1.symm
                        have e2 : t1 = Tm.twoK jt (c : Nat) t := by
                          have h1 := HT1.out
                          unfold Tm.twoK
                          exact h1.symm
                        have h1 := HO2.out
                        have h2 := HBZ.out
                        unfold Tm.oneZ
                        rw [← e1, ← e2]
                        by_cases h : o1 = 0 ∧ t1 = 0 ∧ 0 < o
                        · rw [decide_eq_true h] at h2
                          rw [if_pos h2.symm] at h1
                          rw [if_pos h]; exact h1.symm
                        · rw [decide_eq_false h] at h2
                          rw [← h2, if_neg (by simp)] at h1
                          rw [if_neg h]; exact h1.symm
                      have hZ2 : t1 = Tm.twoK jt (c : Nat) t := by
                        have h1 := HT1.out
                        unfold Tm.twoK
                        exact h1.symm
                      rw [← hZ1, ← hZ2] at HES hel
                      have HZ := hide hZ1
                      clear hZ1 hZ2
                      have ho2l : o2 ≤ 20 := by go_light; have := HO2.out; split at this <;> omega
                      replace HIc := hide (HIc.out o2 t1 ho2l (by go_light; omega))
                      have hGG := hcut.2
                      rw [HI.out] at hGG
                      obtain ⟨g1, g2, g3, g4, g5⟩ := hGG
                      obtain ⟨hto, _⟩ := hcut
                      have t0 := obj_at hto 0 _ rfl
                      have t1' := obj_at hto 1 _ rfl
                      have t2' := obj_at hto 2 _ rfl
                      have t3' := obj_at hto 3 _ rfl
                      have t4 := obj_at hto 4 _ rfl
                      have t5 := obj_at hto 5 _ rfl
                      have htl := (Array.getElem?_eq_some_iff.1 hto).1
                      have hbll := (Array.getElem?_eq_some_iff.1 g1).1
                      generalize Tm.endsP Wn jo jt l (Tm.behs ((c : Nat) : Int) rem) o2 t1 = en at *
                      have hor := or_lt4 hfl hel
                      go_wp2_with (go_at_call 86; refine (HIc.out _ g2 g4 g3).mono ?_; rintro e w6 ⟨rfl, hg6, hc6, hk6⟩)
                      refine ⟨⟨c + 1, by go_light; omega, by go_num, ?_, (hg6.block _ hbll (by go_light; omega) (by go_light; omega)).trans g1, g2.grown2 hg6 (by rw [Int.toNat_natCast]; exact hc6) hRK hAK, g3.keep (hg6.block J g3.lt hJM hJK) hg6.size, hk6, g5.trans hg6⟩, by go_light; simp [intOf]; omega⟩
                      rw [HES.out, or_i64 hfl hel]
        · have hcW : c = Wn := by omega
          rw [hcW]
          have hEv : E = eFold Wn jo jt l (Tm.remP (lts ts) p) o t Wn := HE3.out
          rw [← hEv]
          have HP3 := HPUT.out
          obtain ⟨w5, hr5, hk5, hg5⟩ := HP3 wr.drew (hKr.below (below_drew (Below.refl _ _)))
          have q0 := hJr.c3
          have ql := hJr.lt
          have b0 := obj_at hbx 0 _ rfl
          have b1 := obj_at hbx 1 _ rfl
          have b2 := obj_at hbx 2 _ rfl
          have b3 := obj_at hbx 3 _ rfl
          have b4 := obj_at hbx 4 _ rfl
          have b5 := obj_at hbx 5 _ rfl
          have hbl := (Array.getElem?_eq_some_iff.1 hbx).1
          clear HP3 hEv HPUT
          go_wp2
          go_region
          go_wp2
          go_ret
          have hg5w : wr.grownBy w5 (some K) := grown_trans (grown_none (below_grown (below_drew (Below.refl _ _)))) hg5
          exact ⟨rfl, hGr.trans (Grown2.of hg5w (.inr rfl)), by have := hRr.km.kept hg5w (by simp; omega); rwa [Int.toNat_natCast] at this, hk5⟩
theorem ends_any (R M : Nat) (Wn : Nat) (A : Option Addr) (ts : List ByteArray) (cap : Nat) (h3 : ts.length ≤ 3) (hf : Fine ts) (hs : Small ts) (hW1 : 1 ≤ Wn) (hW2 : Wn ≤ 5) (jo jt : Int) (J K : Nat) (hKM : K ≠ M) (hRK : R ≠ K) (hAK : ∀ (k : Nat) (s : ByteArray), ts[k]? = some s → ∃ b o, A = some ⟨b, o, none⟩ ∧ b ≠ K) (hJM : J ≠ M) (hJK : J ≠ K) : ∀ (l : Nat), l ≤ 20 → ∀ (o t : Nat) (p : List Nat) (w : World), o ≤ 20 → t ≤ 20 → Tm.IsPl (lts ts) p → Reel R M (Wn : Nat) A ts cap w → (KMap 127 K (goodE Wn jo jt (lts ts))) w → JAt w J R jo jt K → Calls Try.prog 86 #[.pointer (some ⟨J, 0, none⟩), waV p l o t] w (Gives2 w M K (fun w' => (KMap 109 M (goodC Wn (lts ts))) w' ∧ (KMap 127 K (goodE Wn jo jt (lts ts))) w') (.int .i64 (Tm.endsP Wn jo jt l (Tm.remP (lts ts) p) o t : Nat)))
  | 0, hl, o, t, p, w, ho, ht, hp, hR, hK, hJ => ends_low R M Wn A ts cap h3 hf hs hW1 hW2 jo jt J K hKM hRK hAK hJM hJK 0 o t hl ho ht p w hp hR hK hJ (by
      by_cases h : t = 0
      · exact .inr (.inr (.inl h))
      · exact .inr (.inr (.inr (.inr (by omega)))))
  | l + 1, hl, o, t, p, w, ho, ht, hp, hR, hK, hJ => by
    by_cases hlow : Tm.hasN Wn (l + 1) (Tm.remP (lts ts) p) = false ∨ (o = 0 ∧ t = 0) ∨ (t = 0 ∨ l + 1 < o ∨ l + 1 < t)
    · exact ends_low R M Wn A ts cap h3 hf hs hW1 hW2 jo jt J K hKM hRK hAK hJM hJK (l + 1) o t hl ho ht p w hp hR hK hJ hlow
    · have h1 : Tm.hasN Wn (l + 1) (Tm.remP (lts ts) p) = true := by
        cases h : Tm.hasN Wn (l + 1) (Tm.remP (lts ts) p) with
        | true => rfl
        | false => exact absurd (.inl h) hlow
      exact ends_succ R M Wn A ts cap h3 hf hs hW1 hW2 jo jt J K hKM hRK hAK hJM hJK l o t hl ho ht (fun o t p w ho ht hp hR hK hJ => ends_any R M Wn A ts cap h3 hf hs hW1 hW2 jo jt J K hKM hRK hAK hJM hJK l (by omega) o t p w ho ht hp hR hK hJ) p w hp hR hK hJ h1 (fun h => hlow (.inr (.inl h))) (fun h => hlow (.inr (.inr h)))
end Go.Proofs.Ytafncmgijbkomaa

/- Proved here: the reference: words without equal neighbours, a part of the proofs about the ticket laws. Conditions: those that each theorem names, no others. -/
import Derived.Test.YtgjfejpibielaaaQ06
import Derived.Test.YtgjfejpibielaaaQ17
import Derived.WalkKit
import Derived.WalkSpells
import Derived.WalkLawsBesides
import Derived.Below
import Derived.Deep.QuietTactic
import Derived.BigQuiet
import Derived.Deep.Light
set_option linter.unusedSimpArgs false
set_option linter.unusedVariables false
namespace Go.Proofs.Ytgjfejpibielaaa
open Go.RowKit Go.Maps Go.Shelf
attribute [local go_sem] Oper.semAt_some World.cell?_setCell_far
/-! lists of strings -/
def Strs (w : World) (A : Option Addr) (ss : List ByteArray) : Prop := Rd w 1 A ss.length (ss.map Value.string)
theorem Strs.ext {w w' : World} {A : Option Addr} {ss : List ByteArray} (h : Strs w A ss) (hb : Below w.heap.size w w') : Strs w' A ss := Rd.ext h hb
theorem Strs.form {w : World} {A : Option Addr} {ss : List ByteArray} (h : Strs w A ss) (hk : 0 < ss.length) : ∃ b o, A = some ⟨b, o, none⟩ ∧ b < w.heap.size := by
 obtain ⟨b, o, he, hl, _⟩ := h.2 hk
 exact ⟨b, o, he, hl⟩
theorem Strs.at {w : World} {b o : Nat} {ss : List ByteArray} (h : Strs w (some ⟨b, o, none⟩) ss) {k : Nat} (hk : k < ss.length) : w.cell? ⟨b, o + k, none⟩ = some (.string ss[k]) := by
 obtain ⟨b', o', he, _, h0⟩ := h.2 (by omega)
 injection he with he
 injection he with e1 e2 _
 subst e1 e2
 exact h0 k _ (by rw [List.getElem?_map, List.getElem?_eq_getElem hk]; rfl)
/-- a list of strings that is new -/
def GivesS (w : World) (ss : List ByteArray) (e : Ending) (w' : World) : Prop := ∃ A c, e = .returned (.slice A ss.length c) ∧ Below w.heap.size w w' ∧ w'.ownsRow w.heap.size 9 1 (.slice A ss.length c) ss.length (ss.map Value.string)
theorem infoS : (Try.prog.info? 9).map (fun i => (i.zero, i.size, i.bytes)) = some (some (.string ⟨#[]⟩), 1, 16) := by kernel_rfl
theorem und87 : Try.prog.underlying 87 = some (.slice 9) := by kernel_rfl
theorem strW_app (a b : List Nat) : strW a ++ strW b = strW (a ++ b) := by
 apply ByteArray.ext
 rw [ByteArray.data_append]
 unfold strW
 simp
theorem strW_inj {v w : List Nat} (hv : ∀ x, x ∈ v → x < 100) (hw : ∀ x, x ∈ w → x < 100) (h : strW v = strW w) : v = w := by
 have h1 := congrArg (fun s : ByteArray => (s.data.toList.map fun b : UInt8 => b.toNat - 97)) h
 unfold strW at h1
 simp only [List.map_map] at h1
 have e : ∀ l : List Nat, (∀ x, x ∈ l → x < 100) → l.map ((fun b : UInt8 => b.toNat - 97) ∘ unb) = l := fun l hl => by
  conv => rhs; rw [← List.map_id l]
  apply List.map_congr_left
  intro x hx
  have := unb_val (hl x hx)
  simp only [Function.comp, id]
  omega
 rw [e v hv, e w hw] at h1
 exact h1
theorem strW_inj1 (x c : Nat) (hx : x < 100) (hc : c < 100) : (strW [x] = strW [c]) ↔ x = c :=
 ⟨fun h => by
  have := strW_inj (fun y hy => by rw [List.mem_singleton.1 hy]; exact hx) (fun y hy => by rw [List.mem_singleton.1 hy]; exact hc) h
  injection this, fun h => by rw [h]⟩
theorem strW_last {w : List Nat} {i : Nat} (h : w.length = i + 1) : (strW w).extract i (strW w).size = strW [w[i]] := by
 apply ByteArray.ext
 rw [ByteArray.data_extract, strW_size]
 unfold strW
 apply Array.ext'
 simp only [Array.toList_extract, List.extract, h, Nat.add_sub_cancel_left]
 rw [← List.map_drop, List.drop_eq_getElem_cons (by omega), List.map_cons, List.map_cons]
 rfl
/-- the letters, as they are made -/
theorem letter_conv (c : Nat) (hc : c < 6) (w : World) : (convert 62 9 (.slice (some ⟨w.heap.size, 0, none⟩) 1 1)).run Try.prog (w.alloc (.cells #[.int .u8 ((c : Int) + 97)] 5)) = .ok (.string (strW [c])) (w.alloc (.cells #[.int .u8 ((c : Int) + 97)] 5)) :=
 back_bytes (l := [c]) (rd_new1 w (byteC c) 5) (fun x hx => by rw [List.mem_singleton.1 hx]; omega) (fun h => by cases h)
theorem own_lit1 (w : World) (e : TypeId) (v : Value) : (w.alloc (.cells #[v] e)).ownsRow w.heap.size e 1 (.slice (some ⟨w.heap.size, 0, none⟩) 1 1) 1 [v] :=
 World.ownsRow_lit w #[v] 1 (Nat.le_refl _) (by unfold maxLen; omega) rfl
theorem own_mono {w : World} {B C : Nat} {e : TypeId} {sz n : Nat} {v : Value} {xs : List Value} (h : w.ownsRow C e sz v n xs) (hB : B ≤ C) : w.ownsRow B e sz v n xs := by
 refine ⟨h.1, ?_⟩
 rcases h.2 with h | ⟨g, cap, cur, h1, h2, h3⟩
 · exact .inl h
 · exact .inr ⟨g, cap, cur, h1, Nat.le_trans hB h2, h3⟩
set_option maxRecDepth 100000 in
set_option maxHeartbeats 4000000 in
theorem rWords_any (L rest : Nat) (A : Option Addr) (K : List Nat) (c : Nat)(w : World) (hd : OkD L rest K) (hA : I64 w A (zs K)) : Calls Try.prog 81 #[.agg #[.int .i64 (L : Nat), .int .i64 (K.length : Nat), .slice A K.length c, .int .i64 (rest : Nat)]] w (GivesS w ((Tt.wordsE L K.length).map strW)) := by
 obtain ⟨ti, ih, iz, is, ib⟩ := info_parts infoS
 have hn8 := hd.2.2.2.1
 have hL6 := hd.2.1
 go_enter Try.func81, Try.ntmps81
 go_upto_region 1 with fail
 obtain ⟨wa, hwa, hW, hX⟩ := boxed w #[.int .i64 (L : Nat), .int .i64 (K.length : Nat), .slice A K.length c, .int .i64 (rest : Nat)] 24
 rw [hwa]
 clear hwa
 replace hA := hA.ext hW
 have q0 := obj_at hX 0 _ rfl
 have q1 := obj_at hX 1 _ rfl
 have q2 := obj_at hX 2 _ rfl
 have q3 := obj_at hX 3 _ rfl
 have ql := obj_lt hX
 have hWs := hW.size
 have hbA : Below wa.heap.size wa (wa.alloc (.cells #[.string ⟨#[]⟩] 9)) := below_alloc (Below.refl _ _) (Nat.le_refl _) _
 have hown0 : (wa.alloc (.cells #[.string ⟨#[]⟩] 9)).ownsRow wa.heap.size 9 1 (.slice (some ⟨wa.heap.size, 0, none⟩) 1 1) 1 ((Tt.wordsE L 0).map (fun x => Value.string (strW x))) := own_lit1 _ _ _
 go_wp2
 go_loopw [3, 4] (fun o iv wr => ∃ (i : Nat) (A1 : Option Addr) (m c1 : Nat), i ≤ K.length ∧ iv = .int .i64 (i : Nat) ∧ o = .slice A1 m c1 ∧ Hid (m = (Tt.wordsE L i).length) ∧ wr.ownsRow wa.heap.size 9 1 (.slice A1 m c1) m ((Tt.wordsE L i).map (fun x => Value.string (strW x))) ∧ Below wa.heap.size wa wr) (fun _ iv _ => K.length - (intOf iv).toNat)
 case atStart => exact ⟨0, _, 1, 1, Nat.zero_le _, rfl, rfl, rfl, hown0, hbA⟩
 case round =>
  obtain ⟨i, A1, m, c1, hi, rfl, rfl, HM, hO, hb⟩ := hrel
  obtain ⟨wo, rfl⟩ : ∃ wo : World, wo = wr := ⟨_, rfl⟩
  have hzo := hb.size
  have hXo := hX.ext hb
  clear q0 q1 q2 q3 ql
  have q0 := obj_at hXo 0 _ rfl
  have q1 := obj_at hXo 1 _ rfl
  have ql := obj_lt hXo
  by_cases hin : i < K.length
  · have hinI : (i : Int) < (K.length : Int) := by omega
    go_wp2
    go_loopw [5, 6] (fun nx kv wr => ∃ (k : Nat) (A2 : Option Addr) (m2 c2 : Nat), k ≤ m ∧ kv = .int .i64 (k : Nat) ∧ nx = .slice A2 m2 c2 ∧ Hid (m2 = (Tt.wordK L i k).length) ∧ wr.ownsRow wo.heap.size 9 1 (.slice A2 m2 c2) m2 ((Tt.wordK L i k).map (fun x => Value.string (strW x))) ∧ Below wo.heap.size wo wr) (fun _ kv _ => m - (intOf kv).toNat)
    case atStart => exact ⟨0, none, 0, 0, Nat.zero_le _, rfl, rfl, rfl, World.ownsRow_nil _ _ _ _, Below.refl _ _⟩
    case round =>
     obtain ⟨k, A2, m2, c2, hk, rfl, rfl, HM2, hO2, hb2⟩ := hrel
     obtain ⟨wp, rfl⟩ : ∃ wp : World, wp = wr := ⟨_, rfl⟩
     have hzp := hb2.size
     have hXp := hXo.ext hb2
     clear q0 q1 ql
     have q0 := obj_at hXp 0 _ rfl
     have q1 := obj_at hXp 1 _ rfl
     have ql := obj_lt hXp
     by_cases hkm : k < m
     · have hkmI : (k : Int) < (m : Int) := by omega
       have hkw : k < (Tt.wordsE L i).length := by rw [← HM.out]; exact hkm
       have hmem := Tt.wordsE_mem (List.getElem_mem hkw)
       have HWS := hide (Tt.wordK_succ L i k hkw)
       have hat := own_at2 hO k (Value.string (strW (Tt.wordsE L i)[k])) (by rw [List.getElem?_map, List.getElem?_eq_getElem hkw]; rfl)
       have hml : m ≤ 1679616 := by rw [HM.out]; exact Tt.wordsE_small hL6 (by omega)
       have hml2 : m2 ≤ m * 6 := by
        rw [HM2.out, HM.out]
        have h1 := Tt.wordK_len L i k
        have h2 := Nat.mul_le_mul_left (Tt.wordsE L i).length hL6
        omega
       generalize (Tt.wordsE L i)[k] = ws at *
       obtain ⟨ob, rfl, hob, hcell⟩ := hat
       go_wp2
       go_loopw [5, 7] (fun nx cv wr => ∃ (cc : Nat) (A3 : Option Addr) (m3 c3 : Nat), cc ≤ L ∧ cv = .int .i64 (cc : Nat) ∧ nx = .slice A3 m3 c3 ∧ Hid (m3 = m2 + (Tt.extK (-1) ws cc).length) ∧ wr.ownsRow wo.heap.size 9 1 (.slice A3 m3 c3) m3 ((Tt.wordK L i k ++ Tt.extK (-1) ws cc).map (fun x => Value.string (strW x))) ∧ Below wo.heap.size wo wr) (fun _ cv _ => L - (intOf cv).toNat)
       case atStart => exact ⟨0, _, m2, c2, Nat.zero_le _, rfl, rfl, rfl, by simpa [Tt.extK_zero] using hO2, hb2⟩
       case round =>
        obtain ⟨cc, A3, m3, c3, hcc, rfl, rfl, HM3, hO3, hb3⟩ := hrel
        have hzr := hb3.size
        have hXr := hXo.ext hb3
        clear q0 q1 ql
        have q0 := obj_at hXr 0 _ rfl
        have q1 := obj_at hXr 1 _ rfl
        have ql := obj_lt hXr
        by_cases hcL : cc < L
        · have hcI : (cc : Int) < (L : Int) := by omega
          have hc6 : cc < 6 := by omega
          have hlet := u8_letter cc hc6
          have hcv := letter_conv cc hc6 wr
          have hce := (hb3.cell (p := ⟨ob, k, none⟩) hob).trans hcell
          have hobr : ob < wr.heap.size := by omega
          have hbl : Below wr.heap.size wr (wr.alloc (.cells #[.int .u8 ((cc : Int) + 97)] 5)) := below_alloc (Below.refl _ _) (Nat.le_refl _) _
          have hcat : ¬ 9223372036854775807 < (strW ws).size + (strW [cc]).size := by rw [strW_size, strW_size, hmem.1]; simp; omega
          have hsapp := strW_app ws [cc]
          have HS := hide (Tt.extK_succ (-1) ws cc)
          have hl3 : m3 ≤ 20000000 := by
           have h1 := Tt.extK_len (-1) ws cc
           have h2 := HM3.out
           omega
          have hmm : ∀ x, x ∈ ws → x < 6 := fun x hx => by have := hmem.2 x hx; omega
          have hwl := hmem.1
          have HM3' := HM3
          clear hml hml2 hmem hkw HM HM2 HWS HM3
          rcases Nat.eq_zero_or_pos i with hi0 | hi0
          · have hiI : ((i : Int) == 0) = true := by simp; omega
            have HEK : Hid (Tt.extK (-1) ws (cc + 1) = Tt.extK (-1) ws cc ++ [ws ++ [cc]]) := hide (by
             rw [HS.out, if_neg]
             have : ws = [] := List.eq_nil_of_length_eq_zero (by omega)
             subst this
             rw [Tt.lastD_nil]; omega)
            have HM3 := HM3'
            clear HS hi0 hwl hmm HM3'
            go_wp2_with (first
 | (at_builtin; refine wpList_app _ rfl (.tmp 46) (.tmp 53) 87 rfl (wo.heap.size) 9 ti _ 1 16 und87 ih iz is ib rfl (by decide) ((.slice A3 m3 c3)) (m3) (_) rfl ((own_ext hO3 hbl).alloc _) (some ⟨wr.heap.size + 1, 0, none⟩) (1) (1) ([.string (strW (ws ++ [cc]))]) rfl (by have h := rd_new1 (wr.alloc (.cells #[.int .u8 ((cc : Int) + 97)] 5)) (.string (strW (ws ++ [cc]))) 9; rwa [World.size_alloc] at h) (by simp [Value.oneCell']) (by unfold maxLen; omega) (by omega) (by (first | omega | (simp only [zz]; omega) | (simp only [zz] at *; omega) | (simp; done) | (simp; omega))) ?_; intro A7 c7 u7 hown7 hgr7))
            exact ⟨⟨cc + 1, A7, m3 + 1, c7, by omega, by go_num, rfl, hide (by rw [HEK.out, HM3.out]; simp; omega), by rw [HEK.out, ← List.append_assoc, List.map_append]; exact hown7, gb_below (below_alloc (below_step hb3 hbl hzr) (by simp; omega) _) hgr7 (by simp; omega) (fun r e => (hO3.lt r e).1)⟩, by simp [intOf]; omega⟩
          · obtain ⟨j, hj⟩ : ∃ j, i = j + 1 := ⟨i - 1, by omega⟩
            have hla := Tt.lastD_at (la := -1) (w := ws) (i := j) (by omega)
            have hex := strW_last (w := ws) (i := j) (by omega)
            have hsz := strW_size ws
            have hx6 := hmm _ (List.getElem_mem (show j < ws.length by omega))
            have hiI : ((i : Int) == 0) = false := by simp; omega
            have hiw : IntKind.i64.wrap ((i : Int) - 1) = (j : Int) := by rw [IntKind.wrap_i64]; omega
            have hjs : j ≤ (strW ws).size := by omega
            generalize ws[j]'(by omega) = x at *
            rw [hsz] at hex
            by_cases hxc : x = cc
            · have HEK : Hid (Tt.extK (-1) ws (cc + 1) = Tt.extK (-1) ws cc) := hide (by rw [HS.out, if_pos (by rw [hla, hxc])])
              have hne : ((strW [x]).toList == (strW [cc]).toList) = true := by simp [hxc]
              have HM3 := HM3'
              clear HS hla hxc hwl hj hi0 hmm HM3'
              go_wp2
              exact ⟨⟨cc + 1, A3, m3, c3, by omega, by go_num, rfl, hide (by rw [HEK.out]; exact HM3.out), by rw [HEK.out]; exact own_ext hO3 hbl, below_step hb3 hbl hzr⟩, by simp [intOf]; omega⟩
            · have HEK : Hid (Tt.extK (-1) ws (cc + 1) = Tt.extK (-1) ws cc ++ [ws ++ [cc]]) := hide (by rw [HS.out, if_neg (by rw [hla]; omega)])
              have hne : ((strW [x]).toList == (strW [cc]).toList) = false := by rw [beq_eq_false_iff_ne]; intro h; rw [ByteArray.toList_eq, ByteArray.toList_eq] at h; exact hxc ((strW_inj1 x cc (by omega) (by omega)).1 (ByteArray.ext (Array.toList_inj.1 h)))
              have HM3 := HM3'
              clear HS hla hxc hwl hj hi0 hmm HM3'
              go_wp2_with (first
 | (at_builtin; refine wpList_app _ rfl (.tmp 46) (.tmp 53) 87 rfl (wo.heap.size) 9 ti _ 1 16 und87 ih iz is ib rfl (by decide) ((.slice A3 m3 c3)) (m3) (_) rfl ((own_ext hO3 hbl).alloc _) (some ⟨wr.heap.size + 1, 0, none⟩) (1) (1) ([.string (strW (ws ++ [cc]))]) rfl (by have h := rd_new1 (wr.alloc (.cells #[.int .u8 ((cc : Int) + 97)] 5)) (.string (strW (ws ++ [cc]))) 9; rwa [World.size_alloc] at h) (by simp [Value.oneCell']) (by unfold maxLen; omega) (by omega) (by (first | omega | (simp only [zz]; omega) | (simp only [zz] at *; omega) | (simp; done) | (simp; omega))) ?_; intro A7 c7 u7 hown7 hgr7))
              exact ⟨⟨cc + 1, A7, m3 + 1, c7, by omega, by go_num, rfl, hide (by rw [HEK.out, HM3.out]; simp; omega), by rw [HEK.out, ← List.append_assoc, List.map_append]; exact hown7, gb_below (below_alloc (below_step hb3 hbl hzr) (by simp; omega) _) hgr7 (by simp; omega) (fun r e => (hO3.lt r e).1)⟩, by simp [intOf]; omega⟩
        · have hcI : ¬ ((cc : Int) < (L : Int)) := by omega
          have hcLe : cc = L := by omega
          have HW2 : Hid (Tt.wordK L i (k + 1) = Tt.wordK L i k ++ Tt.extK (-1) ws cc) := hide (by rw [HWS.out, hcLe, Tt.extK_all])
          clear hcLe
          go_wp2
          exact ⟨⟨k + 1, A3, m3, c3, by omega, by go_num, rfl, hide (by rw [HW2.out, List.length_append, ← HM2.out]; exact HM3.out), by rw [HW2.out]; exact hO3, hb3⟩, by simp [intOf]; omega⟩
     · have hkmI : ¬ ((k : Int) < (m : Int)) := by omega
       have hkw : k = (Tt.wordsE L i).length := by rw [← HM.out]; omega
       have HW3 : Hid (Tt.wordK L i k = Tt.wordsE L (i + 1)) := hide (by rw [hkw, Tt.wordK_all])
       clear hkw
       go_wp2
       exact ⟨⟨i + 1, A2, m2, c2, by omega, by go_num, rfl, hide (by rw [← HW3.out]; exact HM2.out), by rw [← HW3.out]; exact own_mono hO2 hzo, below_step hb hb2 hzo⟩, by simp [intOf]; omega⟩
  · have hinI : ¬ ((i : Int) < (K.length : Int)) := by omega
    have hie : i = K.length := by omega
    have hmt : m = ((Tt.wordsE L K.length).map strW).length := by rw [HM.out, hie]; simp
    have HMT := hide hmt
    have HIE := hide hie
    clear hmt hie
    go_wp2
    go_ret
    unfold GivesS
    rw [← HMT.out, List.map_map, ← HIE.out]
    exact ⟨A1, c1, rfl, below_step hW hb hWs, own_mono hO hWs⟩
end Go.Proofs.Ytgjfejpibielaaa

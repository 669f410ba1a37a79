/- Join: what two sets have together, as a new set. -/
import Derived.Test.YtaphhmefkfhepaaRunMh
namespace Go.Proofs.Ytaphhmefkfhepaa.Run
open Go Go.RowKit Go.Proofs.Ytaphhmefkfhepaa.L
set_option linter.unusedVariables false
set_option linter.unusedSimpArgs false

def sumL (la lb : List Rn) (k : Nat) : List Rn := match k with | 0 => [] | 1 => putAll [] la | _ => joinL la lb
def srcV (pa pb : Option Addr) (k : Nat) : Option Addr := if k = 0 then pa else pb
def srcL (la lb : List Rn) (k : Nat) : List Rn := if k = 0 then la else lb

set_option maxRecDepth 100000 in
set_option maxHeartbeats 4000000 in
theorem join_calls (w : World) (pa pb : Option Addr) (la lb : List Rn) (sa : SrcAt w (.pointer pa) la) (sb : SrcAt w (.pointer pb) lb) (ga : All64 la) (gb : All64 lb) (na : la.length ≤ 1000) (nb : lb.length ≤ 1000) :
    Calls Try.prog 31 #[.pointer pa, .pointer pb] w (NewSet w (joinL la lb)) := by
  have H1 := Lib.hid (putAll_spec la [] good_nil ga)
  have HJ := Lib.hid (join_spec ga gb)
  have HS : Hid (∀ k, k < 2 → Good (sumL la lb k) ∧ (sumL la lb k).length ≤ 1000 ∧ All64 (srcL la lb k) ∧ (srcL la lb k).length ≤ 1000 ∧ SrcAt w (.pointer (srcV pa pb k)) (srcL la lb k) ∧ sumL la lb (k + 1) = putAll (sumL la lb k) (srcL la lb k)) := by
    show ∀ k, _
    intro k hk
    match k, hk with
    | 0, _ => exact ⟨good_nil, by simp [sumL], ga, na, sa, rfl⟩
    | 1, _ => exact ⟨H1.out.1, by have := H1.out.2.2; simp at this; simp only [sumL]; omega, gb, nb, sb, rfl⟩
  clear sa sb ga gb
  go_enter Try.func31, Try.ntmps31
  go_wp2_with (go_at_call 15; refine (new_calls _).mono ?_; rintro e w1 ⟨rfl, s1, k1⟩)
  have hz1 : w.heap.size < w1.heap.size := s1.lt
  have hk0 : w.heap.size ≤ w1.heap.size := k1.size
  have G0 : Grown w.heap.size w.heap.size [] (w1.alloc (.cells #[.pointer pa, .pointer pb] 23)) := ⟨none, s1.kept0 ((Keeps.refl _ _).alloc _), fun k h => by cases h⟩
  have D0 : Held (fun b => b = w1.heap.size) w.heap.size w.heap.size (w1.alloc (.cells #[.pointer pa, .pointer pb] 23)) :=
    ⟨fun b hb => by subst hb; exact ⟨_, heap_alloc_new w1 _, rfl⟩, fun k hk h => (by
      rw [rowAt_kept ((Keeps.refl (fun _ => False) w1).alloc _) hz1, s1.rowAt] at hk; cases hk), ⟨by simp; omega, by omega⟩, by simp; omega⟩
  have C0 := heap_alloc_new w1 (.cells #[.pointer pa, .pointer pb] 23)
  have K0 : Keeps (fun k => w.heap.size ≤ k) w (w1.alloc (.cells #[.pointer pa, .pointer pb] 23)) := (k1.alloc _).mono fun _ _ h => h.elim
  have HG := Lib.hid G0
  have HD := Lib.hid D0
  have HC := Lib.hid C0
  clear G0 D0 C0 s1 k1
  go_loopw [15] (fun u15 wr => ∃ k : Nat, u15 = .int .i64 k ∧ k ≤ 2 ∧ Hid (Grown w.heap.size w.heap.size (sumL la lb k) wr) ∧ Hid (Held (fun b => b = w1.heap.size) w.heap.size w.heap.size wr) ∧ Hid (wr.heap[w1.heap.size]? = some (.cells #[.pointer pa, .pointer pb] 23 (0, 0))) ∧ Keeps (fun k => w.heap.size ≤ k) w wr) (fun u15 _ => 2 - (intOf u15).toNat)
  case atStart => exact ⟨0, rfl, by omega, HG.out, HD.out, HC.out, K0⟩
  case round =>
    obtain ⟨k, rfl, hk2, HG, HD, HC, HK⟩ := hrel
    by_cases hlt : k < 2
    · obtain ⟨gk, lk, lk64, llk, sk, ek⟩ := HS.out k hlt
      have hcv : wr.cell? ⟨w1.heap.size, k, none⟩ = some (.pointer (srcV pa pb k)) := cellOf HC.out k (by
        match k, hlt with
        | 0, _ => rfl
        | 1, _ => rfl)
      have HRu := Lib.hid ((sk.kept HK fun _ h => h).runs (by omega))
      have Hek := Lib.hid ek
      have Hgk := Lib.hid gk
      have H64 := Lib.hid lk64
      clear gk lk64 sk ek
      go_wp2_with (go_at_call 11; refine HRu.out.mono ?_; rintro e w2 ⟨vx, rfl, ox, nx, kx⟩; obtain ⟨ad, c, rfl, q1, q2⟩ := ox.form)
      have HO := Lib.hid ox
      have HN := Lib.hid nx
      have hkx := kx.size
      have HK2 : Keeps (fun k => w.heap.size ≤ k) w w2 := HK.trans kx fun _ _ h => h.elim
      have S2 : SliceK RnR (fun b => b = w1.heap.size ∨ rowOf (.slice ad (srcL la lb k).length c) = some b) w2 (.slice ad (srcL la lb k).length c) (srcL la lb k) := ox.slice (fun _ h => h.elim) fun b hb => .inr hb
      have D2 : Held (fun b => b = w1.heap.size ∨ rowOf (.slice ad (srcL la lb k).length c) = some b) w.heap.size w.heap.size w2 := by
        have hd := (HD.out.kept (KpB.of_kept kx HD.out.bs.1)).1
        refine ⟨fun b hb => ?_, fun q hq hb => ?_, ⟨hd.bs.1, fun h => ?_⟩, hd.size⟩
        · rcases hb with hb | hb
          · exact hd.cells b hb
          · obtain ⟨cs, h1⟩ := HO.out.type b hb; exact ⟨_, h1, rfl⟩
        · rcases hb with hb | hb
          · exact hd.row q hq hb
          · have h1 := HN.out q hb
            rw [rowAt_kept kx HD.out.bs.1] at hq
            obtain ⟨fp, g1, g2⟩ := HG.out
            rw [g1.rowAt] at hq
            have := g1.fp_lt q hq
            omega
        · rcases h with h | h
          · exact hd.bs.2 h
          · have := HN.out _ h
            have := HD.out.bs.1
            omega
      have G2 := HG.out.kept kx
      have C2 := kx.heap0 HC.out
      unfold maxLen at q2
      have HS2 := Lib.hid S2
      have HD2 := Lib.hid D2
      have HG2 := Lib.hid G2
      have HC2 := Lib.hid C2
      clear S2 D2 G2 C2 ox nx HD HG HC HK HO HN hcv HRu kx
      obtain ⟨L, hL⟩ : ∃ L, L = srcL la lb k := ⟨_, rfl⟩
      rw [← hL] at HS2 HD2 H64 Hek q1 llk ⊢
      clear hL
      go_loopw [22] (fun u22 wr => ∃ j : Nat, u22 = .int .i64 j ∧ j ≤ L.length ∧ Hid (Grown w.heap.size w.heap.size (putAll (sumL la lb k) (L.take j)) wr) ∧ Hid (Held (fun b => b = w1.heap.size ∨ rowOf (.slice ad L.length c) = some b) w.heap.size w.heap.size wr) ∧ Hid (SliceK RnR (fun b => b = w1.heap.size ∨ rowOf (.slice ad L.length c) = some b) wr (.slice ad L.length c) L) ∧
        Hid (wr.heap[w1.heap.size]? = some (.cells #[.pointer pa, .pointer pb] 23 (0, 0))) ∧ Keeps (fun k => w.heap.size ≤ k) w wr) (fun u22 _ => L.length - (intOf u22).toNat)
      case atStart => exact ⟨0, rfl, by omega, HG2.out, HD2.out, HS2.out, HC2.out, HK2⟩
      case round =>
        clear HG2 HD2 HS2 HC2 HK2
        obtain ⟨j, rfl, hjl, HGi, HDi, HSi, HCi, HKi⟩ := hrel
        by_cases hlj : j < L.length
        · obtain ⟨b, o, rfl, hA, hbb, hcell⟩ := run_at HSi.out (by omega)
          obtain ⟨r, hr0⟩ : ∃ r, L[j]? = some r := ⟨L[j], List.getElem?_eq_getElem hlj⟩
          obtain ⟨r1, r2, c1, c2⟩ := hcell j r hr0
          have HR0 := Lib.hid hr0
          clear hcell hr0
          obtain ⟨g1, _, g3⟩ := putAll_spec (L.take j) (sumL la lb k) Hgk.out (H64.out.take j)
          rw [List.length_take] at g3
          have ka : Keeps (fun _ => False) wr (wr.alloc (.cells #[.int .u64 r.f, .int .u64 r.t] 30)) := (Keeps.refl _ _).alloc _
          have HP := Lib.hid ((HGi.out.kept ka).put (r := r) (Nat.le_refl _) (by have := HKi.size; simp; omega) g1 ⟨r1, r2⟩ (by omega))
          have HKa := Lib.hid ka
          clear g1 g3 ka
          go_wp2_with (go_at_call 21; refine HP.out.mono ?_; rintro e w3 ⟨⟨n, rfl⟩, g3, k3, kk3, -⟩)
          go_roundw
          case rel =>
            obtain ⟨hd1, hs1⟩ := HDi.out.kept (KpB.of_kept HKa.out HDi.out.bs.1)
            obtain ⟨hd2, hs2⟩ := hd1.kept k3
            have hhs := hs2 w1.heap.size (.inl rfl) (by simp; have := lt_of_heap HCi.out; omega)
            exact ⟨j + 1, by go_num, by omega, by rw [build_step HR0.out]; exact g3, hd2, (HSi.out.keep (fun _ h => h) hs1).keep (fun _ h => h) hs2, by show _ = _; rw [hhs]; exact HKa.out.heap0 HCi.out, (HKi.trans HKa.out fun _ _ h => h.elim).trans kk3 fun _ _ h => h⟩
          case measure => simp [intOf]; omega
        · obtain rfl : j = L.length := by omega
          have HGe : Hid (Grown w.heap.size w.heap.size (sumL la lb (k + 1)) wr) := by show Grown _ _ _ _; rw [Hek.out, ← List.take_length (l := L)]; exact HGi.out
          go_wp2
          go_roundw
          case rel => exact ⟨k + 1, by go_num, by omega, HGe.out, ⟨fun b hb => HDi.out.cells b (.inl hb), fun q hq hb => HDi.out.row q hq (.inl hb), ⟨HDi.out.bs.1, fun h => HDi.out.bs.2 (.inl h)⟩, HDi.out.size⟩, HCi.out, HKi⟩
          case measure => simp [intOf]; omega
    · obtain rfl : k = 2 := by omega
      go_wp2
      go_ret
      obtain ⟨fp, h1, h2⟩ := HG.out
      exact ⟨_, fp, rfl, Nat.le_refl _, h2, h1, HK.mono fun b hb h => by omega⟩
end Go.Proofs.Ytaphhmefkfhepaa.Run

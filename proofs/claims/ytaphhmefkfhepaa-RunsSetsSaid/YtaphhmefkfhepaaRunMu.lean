/- Meet: the caller: what two sets have in common, as a new set. -/
import Derived.Test.YtaphhmefkfhepaaRunMt
namespace Go.Proofs.Ytaphhmefkfhepaa.Run
open Go Go.RowKit Go.Proofs.Ytaphhmefkfhepaa.L Go.Shelf
set_option linter.unusedVariables false
set_option linter.unusedSimpArgs false
attribute [local go_sem] Oper.semAt_some

set_option maxHeartbeats 1000000 in
theorem both_calls (pa pb : Option Addr) (w : World) : Calls Try.prog 39 #[.pointer pa, .pointer pb] w fun e w' => e = .returned (.func (.func 46) #[] #[.pointer (some ⟨w.heap.size, 0, none⟩), .pointer (some ⟨w.heap.size + 1, 0, none⟩)]) ∧ w' = (w.alloc (.cells #[.pointer pa] 23)).alloc (.cells #[.pointer pb] 23) := by
  go_enter Try.func39, Try.ntmps39
  go_wp2
  go_ret
  exact ⟨rfl, rfl⟩

abbrev R64 := { r : Rn // Run64 r }
def rnV (r : Rn) : Value := .agg #[.int .u64 r.f, .int .u64 r.t]

theorem both_stops (bs ba bb : Nat) (va vb : Value) (la lb : List Rn) (w : World) (ha : w.cell? ⟨ba, 0, none⟩ = some va) (hb : w.cell? ⟨bb, 0, none⟩ = some vb) (sa : SrcAt w va la) (sb : SrcAt w vb lb) (na : la.length ≤ 1000) (nb : lb.length ≤ 1000)
    (hba : ba < w.heap.size) (hbb : bb < w.heap.size) (hbs : bs < w.heap.size) (hrow : ∀ k, rowAt w bs = some k → k < w.heap.size) :
    SeqStopsK Fence.wide 10 Try.prog 46 #[.pointer (some ⟨ba, 0, none⟩), .pointer (some ⟨bb, 0, none⟩)] (fun x : R64 => #[.agg #[.int .u64 x.1.f, .int .u64 x.1.t]]) (KpB bs) (fun xs => xs.map (·.1) = meetL la lb) (fun _ => True) (la.length + lb.length) w := by
  intro l J Jx W hW hJ hJx hY h0
  have hk := Keeps.of_below hW
  refine (both1_in l bs ba bb va vb la lb (fun pre W => ∃ p : List R64, p.map (·.1) = pre ∧ J p W) (fun pre W => ∃ p : List R64, Jx p W) (la.length + lb.length) W ?_ ?_ ((kcell hk _ _ hba fun h => h).trans ha) ((kcell hk _ _ hbb fun h => h).trans hb) ⟨[], rfl, h0⟩ (sa.kept0 hk) (sb.kept0 hk) na nb
    (Nat.lt_of_lt_of_le hba hk.size) (Nat.lt_of_lt_of_le hbb hk.size) (Nat.lt_of_lt_of_le hbs hk.size) (fun k h => by rw [rowAt_kept hk hbs] at h; exact Nat.lt_of_lt_of_le (hrow k h) hk.size) (Nat.le_refl _)).mono ?_
  · rintro s A B row ⟨p, h1, h2⟩ hg hr
    exact ⟨p, h1, hJ p A B row h2 hg hr⟩
  · rintro pre x W1 hx ⟨p, rfl, hp⟩ hlen
    obtain ⟨fn, tmps, assign, body, h1, h2⟩ := hY p ⟨x, hx⟩ W1 hp (by simpa using hlen)
    refine ⟨fn, tmps, assign, body, h1, h2.mono ?_⟩
    rintro e W' (⟨rfl, h3, h4⟩ | ⟨rfl, h3⟩)
    · exact .inl ⟨rfl, ⟨_, by simp, h3⟩, h4⟩
    · exact .inr ⟨rfl, _, h3⟩
  · rintro e W' ⟨hv, ⟨p, h1, h2⟩ | ⟨pre, p, h2⟩⟩
    · exact ⟨hv, .inl ⟨p, h1, h2⟩⟩
    · exact ⟨hv, .inr ⟨p, trivial, h2⟩⟩

set_option maxRecDepth 100000 in
set_option maxHeartbeats 4000000 in
theorem meet_calls (w : World) (pa pb : Option Addr) (la lb : List Rn) (sa : SrcAt w (.pointer pa) la) (sb : SrcAt w (.pointer pb) lb) (na : la.length ≤ 1000) (nb : lb.length ≤ 1000) :
    Calls Try.prog 30 #[.pointer pa, .pointer pb] w (NewSet w (putAll [] (meetL la lb))) := by
  have HA := Lib.hid sa
  have HB := Lib.hid sb
  clear sa sb
  refine (callsIn_wide (n := 11)).1 ?_
  refine callsIn_of_wp_marks Try.func30 rfl trivial ?_ rfl
  simp only [Try.ntmps30, List.size_toArray, List.length_cons, List.length_nil, Nat.reduceAdd, Nat.reduceSub, Array.replicate_succ, Array.replicate_zero, List.push_toArray, List.append_toArray, List.nil_append, List.cons_append]
  gi_wp2_with (first
    | (refine ⟨trivial, ?_⟩; gi_at_call 15; refine (callsIn_wide.2 (new_calls _)).mono ?_; rintro e w1 ⟨rfl, s1, k1⟩)
    | (refine ⟨trivial, ?_⟩; gi_at_call 39; refine (callsIn_wide.2 (both_calls _ _ _)).mono ?_; rintro e w2 ⟨rfl, rfl⟩))
  obtain ⟨wo, hwo⟩ : ∃ wo, wo = w1.alloc (.cells #[.pointer (some ⟨w.heap.size, 0, none⟩)] 23) := ⟨_, rfl⟩
  obtain ⟨wa, hwa⟩ : ∃ wa, wa = wo.alloc (.cells #[.pointer pa] 23) := ⟨_, rfl⟩
  obtain ⟨wl, hwl⟩ : ∃ wl, wl = wa.alloc (.cells #[.pointer pb] 23) := ⟨_, rfl⟩
  rw [← hwo, ← hwa, ← hwl]
  have z0 : w.heap.size < w1.heap.size := s1.lt
  have z1 : wo.heap.size = w1.heap.size + 1 := by rw [hwo]; simp
  have z2 : wa.heap.size = w1.heap.size + 2 := by rw [hwa]; simp; omega
  have z3 : wl.heap.size = w1.heap.size + 3 := by rw [hwl]; simp; omega
  have ka : Keeps (fun _ => False) wa wl := by rw [hwl]; exact (Keeps.refl _ _).alloc _
  have ko : Keeps (fun _ => False) wo wl := by rw [hwa] at ka; exact ((Keeps.refl _ _).alloc _).step ka
  have kl : Keeps (fun _ => False) w1 wl := by rw [hwo] at ko; exact ((Keeps.refl _ _).alloc _).step ko
  have kw : Keeps (fun _ => False) w wl := k1.step kl
  have cb : wl.cell? ⟨w1.heap.size + 1 + 1, 0, none⟩ = some (.pointer pb) := by
    have := heap_alloc_new wa (.cells #[.pointer pb] 23)
    rw [← hwl, z2] at this
    exact cellOf this 0 rfl
  have ca : wl.cell? ⟨w1.heap.size + 1, 0, none⟩ = some (.pointer pa) := by
    have := heap_alloc_new wo (.cells #[.pointer pa] 23)
    rw [← hwa, z1] at this
    exact cellOf (ka.heap0 this) 0 rfl
  have co : wl.heap[w1.heap.size]? = some (.cells #[.pointer (some ⟨w.heap.size, 0, none⟩)] 23 (0, 0)) := by
    have := heap_alloc_new w1 (.cells #[.pointer (some ⟨w.heap.size, 0, none⟩)] 23)
    rw [← hwo] at this
    exact ko.heap0 this
  have sl := s1.kept0 kl
  have hBl : Below w.heap.size w wl := kw.below
  have SA := HA.out.kept0 kw
  have SB := HB.out.kept0 kw
  clear hwo hwa hwl ka ko kl k1 s1 HA HB
  refine wpIn_rangeFunc_ownH (n := 11) rfl (by omega) (gf := 46) (lb := #[.pointer (some ⟨w1.heap.size + 1, 0, none⟩), .pointer (some ⟨w1.heap.size + 1 + 1, 0, none⟩)]) rfl trivial (enters_of Try.func46 (by kernel_rfl) rfl)
    (both_stops w.heap.size (w1.heap.size + 1) (w1.heap.size + 1 + 1) (.pointer pa) (.pointer pb) la lb wl ca cb SA SB na nb (by omega) (by omega) (by omega) (fun k h => by rw [sl.rowAt] at h; cases h))
    (fun h k => h.trans k) (fun W l o o' hl h1 h2 _ => KpB.put (by omega) h1 h2) (Below.refl _ _) (fun _ => rfl)
    (fun pre W => (Grown w.heap.size w.heap.size (putAll [] (pre.map (·.1))) W ∧ W.heap[w1.heap.size]? = some (.cells #[.pointer (some ⟨w.heap.size, 0, none⟩)] 23 (0, 0))) ∧ Below w.heap.size w W)
    (fun _ _ _ => False)
    (OwnFrom.and (Go.Own.from (fun s A B row hs hg hr => ⟨by obtain ⟨fp, h1, h2⟩ := hs.1; exact ⟨fp, h1.turned hg hr, h2⟩, by rw [hg.block _ (lt_of_heap hs.2) fun he => by obtain ⟨o, q1, q2⟩ := hr _ he.symm; rw [hs.2] at q1; injection q1 with q1; subst q1; cases q2]; exact hs.2⟩) _) (ownFrom_below (Nat.le_refl _) (by omega)))
    (fun _ _ _ _ _ hs _ _ => hs)
    ⟨⟨⟨none, sl, fun k h => by cases h⟩, co⟩, hBl⟩
    (fun x a' W => ∃ bx, W.heap[bx]? = some (.cells #[.int .u64 x.1.f, .int .u64 x.1.t] 30 (0, 0)) ∧ a' = { tmps := #[.pointer pa, .pointer pb, undef, undef, .pointer none, .pointer (some ⟨w1.heap.size, 0, none⟩), .pointer (some ⟨bx, 0, none⟩), .pointer (some ⟨w.heap.size, 0, none⟩), .pointer pa, .pointer pb, .func (.func 46) #[] #[.pointer (some ⟨w1.heap.size + 1, 0, none⟩), .pointer (some ⟨w1.heap.size + 1 + 1, 0, none⟩)], .agg #[.int .u64 x.1.f, .int .u64 x.1.t], undef, undef, undef, undef], defers := [] })
    (fun x a' => Go.Own.from (fun s A B row hs hg hr => by
      obtain ⟨bx, h1, h2⟩ := hs
      refine ⟨bx, ?_, h2⟩
      rw [hg.block bx (lt_of_heap h1) fun he => by obtain ⟨o, q1, q2⟩ := hr bx he.symm; rw [h1] at q1; injection q1 with q1; subst q1; cases q2]
      exact h1) _)
    ?assign ?body ?done ?stop
  case assign =>
    rintro l pre x W K ⟨⟨hg, hc⟩, hB⟩ hK
    have hz := hB.size
    gi_wp2
    have kk : Keeps (fun _ => False) W (W.alloc (.cells #[.int .u64 x.1.f, .int .u64 x.1.t] 30)) := (Keeps.refl _ _).alloc _
    exact hK _ _ ((KeepsOthers.alloc _ _).from _) (KpB.of_kept kk hg.lt) ⟨⟨hg.kept kk, kk.heap0 hc⟩, hB.alloc hz _⟩ ⟨W.heap.size, heap_alloc_new W _, rfl⟩
  case body =>
    rintro l pre x a' W _ _ ⟨⟨hg, hc⟩, hB⟩ ⟨bx, hx, rfl⟩ hlen
    have hz := hB.size
    have hcc := cellOf hc 0 rfl
    have hne : rowAt W w.heap.size ≠ some w1.heap.size := by
      obtain ⟨fp, ⟨v, q1, q2, q3⟩, _⟩ := hg
      intro h
      rw [SetAt.rowAt ⟨v, q1, q2, q3⟩, ← q3] at h
      obtain ⟨cs, q4⟩ := q2.type _ h
      exact ne_of_heap q4 hc (by decide) rfl
    have HC := Lib.hid hc
    have x0 := cellOf hx 0 rfl
    have x1 := cellOf hx 1 rfl
    obtain ⟨g1, _, g3⟩ := putAll_spec (pre.map (·.1)) [] good_nil (fun r hr => by obtain ⟨y, _, rfl⟩ := List.mem_map.1 hr; exact y.2)
    have HP := Lib.hid (hg.put (r := x.1) (Nat.le_refl _) hz g1 x.2 (by simp at g3 ⊢; omega))
    have HG := Lib.hid hg
    have HB := Lib.hid hB
    clear hg g1 g3 hB hc hx
    gi_wp2_with (refine ⟨trivial, ?_⟩; gi_at_call 21; refine (CallsIn.inRound l (callsIn_wide.2 HP.out)).mono ?_; rintro e w3 ⟨⟨n, rfl⟩, g3, k3, kk3, ko3⟩)
    exact ⟨ko3.from _, k3, ⟨by rw [List.map_append]; unfold putAll at g3 ⊢; rw [List.foldl_append]; exact g3, k3.same _ _ HC.out rfl (by omega) hne⟩, HB.out.trans ⟨kk3.os, kk3.tape, kk3.output, kk3.size, fun k hk => kk3.block k (by omega) (by omega)⟩⟩
  case done =>
    rintro D ys W hD hS ⟨⟨hg, hc⟩, hB⟩ hK
    have hcc := cellOf hc 0 rfl
    have HG := Lib.hid hg
    have HS := Lib.hid hS
    clear hg hS
    gi_wp2
    refine ⟨by simp, .inl ⟨_, _, rfl, run_takeDeferred hK, ?_⟩⟩
    refine ⟨_, results_tmp rfl _ _ _, ?_⟩
    have hkeep : Below w.heap.size w (W.putObj D (.deferred none)) := hB.trans (belowK_b (w := w) (Nat.le_refl _) W D _ _ (by omega) hK rfl rfl)
    obtain ⟨fp, h1, h2⟩ := HG.out
    have h3 := h1.turned (row := some D) (grownBy_putObj' W D (.deferred none)) (fun r e => by cases e; exact ⟨_, hK, rfl⟩)
    rw [HS.out] at h3
    exact ⟨_, fp, rfl, Nat.le_refl _, h2, h3, Keeps.of_below hkeep⟩
  case stop =>
    rintro D c pre W _ _ h _
    exact h.elim
end Go.Proofs.Ytaphhmefkfhepaa.Run

/- ChainStrays for all readings: the contract. -/
import Derived.Test.YtidgcfgkcidkiaaChTb
import Derived.Test.YtidgcfgkcidkiaaChR
namespace Go.Proofs.Ytidgcfgkcidkiaa.Ch
open Go Go.RowKit Go.Proofs.Ytidgcfgkcidkiaa.L Go.Proofs.Ytidgcfgkcidkiaa.X
set_option linter.unusedVariables false
set_option linter.unusedSimpArgs false

def OfP := Int × Int × LayD × Int × CellD
def OfO : Rep OfP := pair (num .i64) (pair (num .i64) (pair LayO (pair (num .u64) CellO)))
def encOf (o : OfP) : AV := ofA o.1 o.2.1 o.2.2.1 o.2.2.2.1 o.2.2.2.2
theorem reads_of' : Reads OfO encOf := reads_of (reads_pair (reads_num .i64) (reads_pair (reads_num .i64) (reads_pair reads_lay (reads_pair (reads_num .u64) reads_cell)))) fun _ => rfl
def wtO (o : OfP) : Nat := wtY o.2.2.1 + wtC o.2.2.2.2
theorem opens_of : OpensB Try.prog OfO 32 wtO := by
  have := opensB_struct (R := OfO) Try.underlying32 (by kernel_rfl)
    (FieldsB.cons (OpensB.num Try.underlying3) rfl (by kernel_rfl) (FieldsB.cons (OpensB.num Try.underlying3) rfl (by kernel_rfl) (FieldsB.cons opens_lay rfl (by kernel_rfl) (FieldsB.cons (OpensB.num Try.underlying22) rfl (by kernel_rfl) (FieldsB.one opens_cell rfl (by kernel_rfl))))))
  exact OpensB.iso (f := id) this id (fun _ => rfl) (fun x => by simp only [wtO, id]; omega)
theorem slice_all {α : Type} {R : Rep α} {A : Nat → Prop} {w : World} {v : Value} {l : List α} (h : SliceK R A w v l) : ∀ x ∈ l, ∃ cs, R.K A w cs x := by
  obtain ⟨ad, c, rfl, h1, h2, h3⟩ := h
  intro x hx
  rcases h3 with rfl | ⟨b, pre, live, rest, T, fz, rfl, _, hb, hc⟩
  · cases hx
  · obtain ⟨i, hi⟩ := List.mem_iff_getElem?.1 hx
    obtain ⟨cs, k1, _⟩ := hc.get hi
    exact ⟨cs, k1⟩
theorem wt_catL (l : List (List Int)) : (catL l).length + l.length + 1 ≤ wtL (wtL fun _ => 1) l := by
  unfold catL wtL
  induction l with
  | nil => simp
  | cons x l ih =>
    have hx : (x.map fun _ => 1).sum = x.length := by
      clear ih
      induction x with
      | nil => rfl
      | cons y x ih => simp only [List.map_cons, List.sum_cons, ih, List.length_cons]; omega
    simp only [List.flatten_cons, List.length_append, List.map_cons, List.sum_cons, List.length_cons, hx]
    omega
theorem lay_ok {A : Nat → Prop} {w : World} {cs : List Value} {l : LayD} (h : LayO.K A w cs l) (hb : wtY l ≤ 1048576) : l.ok := by
  obtain ⟨c1, c2, _, _, c3, c4, _, ⟨v, _, hs⟩, _⟩ := h
  have h1 : ∀ x : SegD, 1 ≤ wtS x := fun x => by unfold wtS wtL; omega
  refine ⟨fun s hm => ⟨?_, ?_⟩, ?_⟩
  · have h2 := wtL_mem (wt := wtS) hm
    have h3 := wt_catL s.chains
    have h4 : wtS s = wtL (wtL fun _ => 1) s.chains := rfl
    unfold wtY at hb
    exact ⟨by omega, by omega⟩
  · obtain ⟨cs, c1, c2, _, ⟨_, hk⟩, _⟩ := slice_all hs s hm
    exact hk.u64.1
  · have := wtL_len h1 l.segs
    unfold wtY at hb
    omega
theorem strays_ac {A : Nat → Prop} {w : World} {cs : List Value} (o : OfP) (h : OfO.K A w cs o) (hb : wtO o ≤ 1048576) (m : MsgD) (e : Int) : ACalls Try.prog 3 [encOf o, encM m, .int .i64 e] [] (.bool true) [] := by
  obtain ⟨cl, id, l, a, c⟩ := o
  obtain ⟨x1, x2, _, _, x3, x4, _, _, x5, x6, _, hl, x7, x8, _, ⟨_, ha⟩, hc⟩ := h
  unfold wtO at hb
  simp only at hb
  have hlo : l.ok := lay_ok (l := l) hl (by omega)
  have ha0 := ha.u64.1
  have hd := wtL_len (wt := fun _ => 1) (fun _ => Nat.le_refl 1) c.data
  have hk := wtL_len (wt := fun _ => 1) (fun _ => Nat.le_refl 1) c.backs
  unfold wtC at hb
  have hd' : c.data.length ≤ 1099511627776 := by omega
  have hk' : c.backs.length ≤ 1099511627776 := by omega
  obtain ⟨b1, h1⟩ := offits_ac cl id l a c
  obtain ⟨b2, h2⟩ := fits10_ac m
  show ACalls _ _ [ofA cl id l a c, encM m, .int .i64 e] [] (.bool true) []
  by_cases hA : Asks cl id l a c
  · obtain ⟨u, hu, hU, h3⟩ := new_yes cl id l a c hlo ha0 hd' hk' hA
    cases b1 with
    | false => exact strays_2 cl id l a c m e u b2 h1 h2 h3
    | true =>
      cases b2 with
      | false => exact strays_4 cl id l a c m e u true h1 h2 h3
      | true =>
        have hp := hU.pos
        obtain ⟨u0, hu0⟩ : ∃ u0, u[0]? = some u0 := ⟨_, List.getElem?_eq_getElem hp⟩
        have hv := hU.all u0 (List.mem_of_getElem? hu0)
        have F : Fair cl id a c u u0 := ⟨hA.cl0, hA.cl1, hA.id0, hA.id1, ha0, hA.at_, hv.1, hv.2, hu0, hd', hk'⟩
        by_cases g1 : e < 0
        · exact ends_0 cl id l a c m e u u0 F g1 h1 h2 h3
        · by_cases g2 : 255 < e
          · exact ends_1 cl id l a c m e u u0 F g1 g2 h1 h2 h3
          · by_cases g3 : e = 0
            · exact ends_2 cl id l a c m e u u0 F g1 g2 g3 h1 h2 h3
            · by_cases g4 : e = 81
              · exact ends_3 cl id l a c m e u u0 F g1 g2 g3 g4 h1 h2 h3
              · exact ends_4 cl id l a c m e u u0 F g1 g2 g3 g4 h1 h2 h3
  · have h3 := new_no cl id l a c hlo ha0 hA
    cases b1 with
    | false => exact strays_1 cl id l a c m e [] b2 h1 h2 h3
    | true =>
      cases b2 with
      | false => exact strays_3 cl id l a c m e [] true h1 h2 h3
      | true => exact strays_5 cl id l a c m e [] true h1 h2 h3
end Go.Proofs.Ytidgcfgkcidkiaa.Ch

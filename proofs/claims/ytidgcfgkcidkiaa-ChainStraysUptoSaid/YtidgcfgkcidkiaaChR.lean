/- The readings of cells, layouts, messages. -/
import Derived.Test.YtidgcfgkcidkiaaGv
import Derived.Test.YtidgcfgkcidkiaaChA
namespace Go.Proofs.Ytidgcfgkcidkiaa.Ch
open Go Go.RowKit Go.Proofs.Ytidgcfgkcidkiaa.L Go.Proofs.Ytidgcfgkcidkiaa.X
set_option linter.unusedVariables false
set_option linter.unusedSimpArgs false

def BackO : Rep BackD := iso (pair (num .i64) (pair (num .u64) (num .u64))) fun x => (x.s, x.a, x.b)
theorem reads_back : Reads BackO encB := reads_of (reads_iso _ (reads_pair (reads_num .i64) (reads_pair (reads_num .u64) (reads_num .u64)))) fun _ => rfl
theorem opens_back : OpensB Try.prog BackO 98 fun _ => 1 :=
  OpensB.iso (opensB_struct Try.underlying98 (by kernel_rfl) (FieldsB.cons (OpensB.num Try.underlying3) rfl (by kernel_rfl) (FieldsB.one (opensB_two Try.underlying96 (by kernel_rfl) (by kernel_rfl) (OpensB.num Try.underlying22)) rfl (by kernel_rfl)))) (fun x => ⟨x.1, x.2.1, x.2.2⟩) (fun _ => rfl) (fun _ => by simp)
def CellO : Rep CellD := iso (pair (num .i64) (pair (slice (num .u8)) (slice BackO))) fun c => (c.kind, c.data, c.backs)
theorem reads_cell : Reads CellO encC := reads_of (reads_iso _ (reads_pair (reads_num .i64) (reads_pair (reads_lst (by decide) (reads_num .u8)) (reads_lst (by decide) reads_back)))) fun _ => rfl
theorem reads_data {A : Nat → Prop} {w : World} {cs : List Value} {c : CellD} (h : CellO.K A w cs c) : ∃ v, cs[2]? = some v := by
  have := CellO.len h
  exact ⟨_, List.getElem?_eq_getElem (by rw [this]; decide)⟩
def wtC (c : CellD) : Nat := wtL (fun _ => 1) c.data + wtL (fun _ => 1) c.backs
theorem opens_cell : OpensB Try.prog CellO 30 wtC :=
  OpensB.iso (opensB_struct Try.underlying30 (by kernel_rfl)
    (FieldsB.cons (OpensB.num Try.underlying26) rfl (by kernel_rfl) (FieldsB.cons (opensB_slice Try.underlying27 (by kernel_rfl) (by decide) (OpensB.num Try.underlying5)) rfl (by kernel_rfl) (FieldsB.one (opensB_slice Try.underlying28 (by kernel_rfl) (by decide) opens_back) rfl (by kernel_rfl)))))
    (fun x => ⟨x.1, x.2.1, x.2.2⟩) (fun _ => rfl) (fun x => by simp only [wtC]; omega)
def UnitO : Rep (List Int) := slice (num .i64)
theorem reads_units : Reads UnitO encU := reads_lst (by decide) (reads_num .i64)
theorem opens_units : OpensB Try.prog UnitO 38 (wtL fun _ => 1) := opensB_slice Try.underlying38 (by kernel_rfl) (by decide) (OpensB.num Try.underlying3)
def wtS (s : SegD) : Nat := wtL (wtL fun _ => 1) s.chains
def SegO : Rep SegD := iso (pair (num .u64) (slice UnitO)) fun s => (s.at_, s.chains)
theorem reads_seg : Reads SegO encS := reads_of (reads_iso _ (reads_pair (reads_num .u64) (reads_lst (by decide) reads_units))) fun _ => rfl
theorem opens_seg : OpensB Try.prog SegO 65 wtS :=
  OpensB.iso (opensB_struct Try.underlying65 (by kernel_rfl)
    (FieldsB.cons (OpensB.num Try.underlying22) rfl (by kernel_rfl) (FieldsB.one (opensB_slice Try.underlying54 (by kernel_rfl) (by decide) opens_units) rfl (by kernel_rfl))))
    (fun x => ⟨x.1, x.2⟩) (fun _ => rfl) (fun x => by simp only [wtS]; omega)
def wtY (l : LayD) : Nat := wtL wtS l.segs
def LayO : Rep LayD := iso (pair (num .u64) (pair (slice SegO) (num .i64))) fun l => (l.epoch, l.segs, l.seq)
theorem reads_lay : Reads LayO encL := reads_of (reads_iso _ (reads_pair (reads_num .u64) (reads_pair (reads_lst (by decide) reads_seg) (reads_num .i64)))) fun _ => rfl
theorem opens_lay : OpensB Try.prog LayO 25 wtY :=
  OpensB.iso (opensB_struct Try.underlying25 (by kernel_rfl)
    (FieldsB.cons (OpensB.num Try.underlying22) rfl (by kernel_rfl) (FieldsB.cons (opensB_slice Try.underlying23 (by kernel_rfl) (by decide) opens_seg) rfl (by kernel_rfl) (FieldsB.one (OpensB.num Try.underlying3) rfl (by kernel_rfl)))))
    (fun x => ⟨x.1, x.2.1, x.2.2⟩) (fun _ => rfl) (fun x => by simp only [wtY]; omega)
def PairO : Rep (Int × Int) := pair (num .i64) (num .i64)
theorem reads_two : Reads PairO fun x => .agg [.int .i64 x.1, .int .i64 x.2] := reads_of (reads_pair (reads_num .i64) (reads_num .i64)) fun _ => rfl
theorem opens_place : OpensB Try.prog PairO 36 fun _ => 1 := by
  have := opensB_struct (R := PairO) Try.underlying36 (by kernel_rfl) (FieldsB.cons (OpensB.num Try.underlying34) rfl (by kernel_rfl) (FieldsB.one (OpensB.num Try.underlying3) rfl (by kernel_rfl)))
  exact OpensB.iso (f := id) this id (fun _ => rfl) (fun _ => by simp)
theorem opens_ballot : OpensB Try.prog PairO 40 fun _ => 1 := by
  have := opensB_struct (R := PairO) Try.underlying40 (by kernel_rfl) (FieldsB.cons (OpensB.num Try.underlying3) rfl (by kernel_rfl) (FieldsB.one (OpensB.num Try.underlying3) rfl (by kernel_rfl)))
  exact OpensB.iso (f := id) this id (fun _ => rfl) (fun _ => by simp)
def MsgP := Int × (Int × Int) × (Int × Int) × Int × Int × Int × Int × Int × CellD × List Int × List BackD × (Int × Int) × (Int × Int) × LayD
def MsgR : Rep MsgP := pair (num .i64) (pair PairO (pair PairO (pair (num .i64) (pair (num .i64) (pair (num .u64) (pair (num .u64) (pair (num .i64) (pair CellO (pair (slice (num .i64)) (pair (slice BackO) (pair PairO (pair PairO LayO))))))))))))
def MsgO : Rep MsgD := iso MsgR fun m => (m.kind, (m.fr, m.fn), (m.tr, m.tn), m.id, m.of_, m.epoch, m.addr, m.err, m.cell, m.streams, m.backs, (m.br, m.bc), (m.pr, m.pc), m.lay)
theorem reads_msg : Reads MsgO encM := reads_of (reads_iso _ (reads_pair (reads_num .i64) (reads_pair reads_two (reads_pair reads_two (reads_pair (reads_num .i64) (reads_pair (reads_num .i64) (reads_pair (reads_num .u64) (reads_pair (reads_num .u64) (reads_pair (reads_num .i64) (reads_pair reads_cell (reads_pair (reads_lst (by decide) (reads_num .i64)) (reads_pair (reads_lst (by decide) reads_back) (reads_pair reads_two (reads_pair reads_two reads_lay)))))))))))))) fun _ => rfl
def wtM (m : MsgD) : Nat := wtC m.cell + wtL (fun _ => 1) m.streams + wtL (fun _ => 1) m.backs + wtY m.lay
theorem opens_msg : OpensB Try.prog MsgO 42 wtM :=
  OpensB.iso (opensB_struct (R := MsgR) Try.underlying42 (by kernel_rfl)
    (FieldsB.cons (OpensB.num Try.underlying33) rfl (by kernel_rfl)
    (FieldsB.cons opens_place rfl (by kernel_rfl)
    (FieldsB.cons opens_place rfl (by kernel_rfl)
    (FieldsB.cons (OpensB.num Try.underlying3) rfl (by kernel_rfl)
    (FieldsB.cons (OpensB.num Try.underlying33) rfl (by kernel_rfl)
    (FieldsB.cons (OpensB.num Try.underlying22) rfl (by kernel_rfl)
    (FieldsB.cons (OpensB.num Try.underlying22) rfl (by kernel_rfl)
    (FieldsB.cons (OpensB.num Try.underlying37) rfl (by kernel_rfl)
    (FieldsB.cons opens_cell rfl (by kernel_rfl)
    (FieldsB.cons (opensB_slice Try.underlying38 (by kernel_rfl) (by decide) (OpensB.num Try.underlying3)) rfl (by kernel_rfl)
    (FieldsB.cons (opensB_slice Try.underlying28 (by kernel_rfl) (by decide) opens_back) rfl (by kernel_rfl)
    (FieldsB.cons opens_ballot rfl (by kernel_rfl)
    (FieldsB.cons opens_ballot rfl (by kernel_rfl)
    (FieldsB.one opens_lay rfl (by kernel_rfl))))))))))))))))
    (fun x => ⟨x.1, x.2.1.1, x.2.1.2, x.2.2.1.1, x.2.2.1.2, x.2.2.2.1, x.2.2.2.2.1, x.2.2.2.2.2.1, x.2.2.2.2.2.2.1, x.2.2.2.2.2.2.2.1, x.2.2.2.2.2.2.2.2.1, x.2.2.2.2.2.2.2.2.2.1, x.2.2.2.2.2.2.2.2.2.2.1, x.2.2.2.2.2.2.2.2.2.2.2.1.1, x.2.2.2.2.2.2.2.2.2.2.2.1.2, x.2.2.2.2.2.2.2.2.2.2.2.2.1.1, x.2.2.2.2.2.2.2.2.2.2.2.2.1.2, x.2.2.2.2.2.2.2.2.2.2.2.2.2⟩) (fun _ => rfl) (fun x => by simp only [wtM]; omega)
end Go.Proofs.Ytidgcfgkcidkiaa.Ch

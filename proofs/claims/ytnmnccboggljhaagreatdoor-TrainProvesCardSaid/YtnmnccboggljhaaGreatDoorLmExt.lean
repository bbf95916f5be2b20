/- The logical machine: two functions without a body. -/
import Derived.Test.YtnmnccboggljhaaGreatDoorLmRun
import Derived.Lib.Bytealg
namespace Go.Lm
open Go Go.RowKit
def idxB : List UInt8 → UInt8 → Nat → Int
  | [], _, _ => -1
  | b :: l, c, i => match b == c with
    | true => (i : Int)
    | false => idxB l c (i + 1)
theorem idxB_eq (l : List UInt8) (c : UInt8) : ∀ i : Nat, idxB l c i = if Lib.indexByte l c = -1 then -1 else Lib.indexByte l c + i := by
  induction l with
  | nil => intro i; rfl
  | cons b l ih =>
    intro i
    unfold idxB Lib.indexByte
    cases h : b == c with
    | true => simp
    | false =>
      simp only [Bool.false_eq_true, if_false]
      rw [ih (i + 1)]
      have hge := Lib.indexByte_ge l c
      by_cases h1 : Lib.indexByte l c = -1
      · simp [h1]
      · have h2 : ¬ (Lib.indexByte l c + 1 = -1) := by omega
        simp only [h1, if_false, beq_iff_eq, h2]
        omega
theorem idxB_zero (l : List UInt8) (c : UInt8) : idxB l c 0 = Lib.indexByte l c := by
  rw [idxB_eq]
  split
  · rename_i h; exact h.symm
  · omega
theorem direct_of {P : Program} {g : FuncId} {f : Func} {e : Array Value → Sem Value} {ds : List D} {r : D} (hf : P.funcs[g]? = some f) (hname : (f.name == "runtime.NumGoroutine") = false) (hb : f.body.isNone = true) (hn : Extern.findNext f = none) (he : Extern.find f = some e)
    (h : ∀ (fz : Fz) (w : World) (us : Array Value), RepDs fz ds us → ∃ u, (e us).run P w = .ok u w ∧ RepD fz r u) : Direct P g ds r := fun fz w us hr => by
  obtain ⟨u, h1, h2⟩ := h fz w us hr
  refine ⟨u, ?_, h2⟩
  rw [run_callFunc_extern hf hname hb hn he, h1]
  rfl
theorem reps_sb {fz : Fz} {l : List UInt8} {c : Int} {us : Array Value} (h : RepDs fz [.s l, .k .u8 c] us) : us = #[.string ⟨l.toArray⟩, .int .u8 c] := by
  obtain ⟨us⟩ := us
  obtain ⟨hl, hr⟩ := h
  match us, hl with
  | [x, y], _ =>
    have h1 := hr 0 _ x rfl rfl
    have h2 := hr 1 _ y rfl rfl
    cases h1
    cases h2
    rfl
theorem direct_count {P : Program} {g : FuncId} {f : Func} (hf : P.funcs[g]? = some f) (hname : (f.name == "runtime.NumGoroutine") = false) (hb : f.body.isNone = true) (hn : Extern.findNext f = none) (he : Extern.find f = some Extern.BytealgCount.count) (l : List UInt8) (c : Int) :
    Direct P g [.s l, .k .u8 c] (.k .i64 ((l.count c.toNat.toUInt8 : Nat) : Int)) := direct_of hf hname hb hn he fun fz w us hr => by
  rw [reps_sb hr]
  exact ⟨_, Lib.run_countString ⟨l.toArray⟩ c w, .k _ _⟩
theorem direct_index {P : Program} {g : FuncId} {f : Func} (hf : P.funcs[g]? = some f) (hname : (f.name == "runtime.NumGoroutine") = false) (hb : f.body.isNone = true) (hn : Extern.findNext f = none) (he : Extern.find f = some Extern.BytealgIndexByte.indexByte) (l : List UInt8) (c : Int) :
    Direct P g [.s l, .k .u8 c] (.k .i64 (idxB l c.toNat.toUInt8 0)) := direct_of hf hname hb hn he fun fz w us hr => by
  rw [reps_sb hr]
  refine ⟨_, Lib.run_indexByteString ⟨l.toArray⟩ c w, ?_⟩
  rw [idxB_zero]
  exact .k _ _
end Go.Lm

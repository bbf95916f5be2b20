/- The logical machine: maps whose keys are three whole numbers; strings that are ranged over. -/
import Derived.Test.YtnmnccboggljhaaGreatDoorLmM
import Derived.MapKept
set_option linter.constructorNameAsVariable false
namespace Go.Lm
open Go Go.RowKit
def putO (w : World) (b : Nat) (o : Obj) : World := { w with heap := w.heap.setIfInBounds b o }
theorem putO_same {w : World} {b : Nat} {o : Obj} (h : b < w.heap.size) : (putO w b o).heap[b]? = some o := by simp [putO, h]
theorem putO_other {w : World} {b k : Nat} {o : Obj} (h : k ≠ b) : (putO w b o).heap[k]? = w.heap[k]? := by
  simp [putO, Array.getElem?_setIfInBounds_ne (Ne.symm h)]
theorem Post.put {β : Bt} {fz : Fz} {w : World} {own : Nat → Prop} (hok : FzOk fz w) {h b : Nat} {x : Value} {blk blk' : Blk} {ob : Obj} (hβ : β h = some x) (hx : blkOf x = some b) (hown : own b ∧ b < w.heap.size)
    (hf : ∀ o, fz b o = none) (hb : HB β fz (putO w b ob) x blk') {v : V} {u : Value} (hv : RepV β fz v u) :
    Post β fz w own [(h, blk)] [] [(h, blk')] v u β fz (putO w b ob) where
  ble := Bt.Le.refl _
  bnew := fun _ _ => rfl
  fle := Fz.Le.refl _
  ffr := fun _ _ _ _ => rfl
  ok := fun b' o u h => by
    have hne : b' ≠ b := fun e => by rw [e, hf] at h; cases h
    have := hok b' o u h
    simp only [World.cell?, putO_other hne] at this ⊢
    exact this
  os := rfl
  tape := rfl
  output := rfl
  size := by simp [putO]
  frame := fun k hk hn => putO_other fun e => hn ⟨_, List.mem_singleton.2 rfl, _, hβ, by rw [e]; exact hx⟩
  hreps := fun y hy => by
    simp only [List.mem_singleton] at hy
    subst hy
    exact ⟨_, hβ, fun k hk => by rw [hx] at hk; cases hk; exact ⟨hown.1, by simpa [putO] using hown.2⟩, hb⟩
  blks := fun y hy z k h1 h2 => by
    simp only [List.mem_singleton] at hy
    subst hy
    exact .inr ⟨_, List.mem_singleton.2 rfl, z, h1, h2⟩
  inj := fun h h' y y' k ⟨z, hz, e⟩ ⟨z', hz', e'⟩ _ _ _ _ => by
    simp only [List.mem_singleton] at hz hz'
    subst hz; subst hz'
    exact e.symm.trans e'
  v := hv

section
variable {P : Program} {s : LS} {new : Nat} {dst : Option Tmp} {type : TypeId} {pos : String} {after : Array Edge} {guard : Option (Nat × Bool)}
/-- a struct of a whole number and a struct of two -/
def keyT (P : Program) (t : TypeId) : Bool := match P.underlying t with
  | some (.struct fs) => match fs.toList with
    | [f0, f1] => f0.name != "_" && f1.name != "_" && f0.offset == 0 && f1.offset == 1 && isIntT P f0.type && teq2 P f1.type && (tag P f1.type == some true) && (tsz P f1.type == some 2) && !P.stoodInHeld t
    | _ => false
  | _ => false
def kV (a b c : Int) : Value := .agg #[.int .i64 a, .int .i64 b, .int .i64 c]
theorem eq2_at {t : TypeId} (h : teq2 P t = true) (n : Nat) (a b c d : Int) (w : World) : (Op.equalIn (n + 2) t (.agg #[.int .i64 a, .int .i64 b]) (.agg #[.int .i64 c, .int .i64 d])).run P w = .ok (a == c && b == d) w := by
  unfold teq2 at h
  split at h
  · rename_i fs hfs
    split at h
    · rename_i f0 f1 hl
      simp only [Bool.and_eq_true, Bool.not_eq_true', bne_iff_ne, ne_eq, beq_iff_eq] at h
      obtain ⟨⟨⟨⟨⟨⟨⟨n0, n1⟩, o0⟩, o1⟩, i0⟩, i1⟩, st⟩, eg⟩ := h
      have hfo : P.underlying t = some (.struct (P.fieldsOf t)) := by
        rw [hfs]; unfold Program.fieldsOf; rw [hfs]
      have hff : P.fieldsOf t = fs := by unfold Program.fieldsOf; rw [hfs]
      obtain ⟨k0, u0⟩ := isInt_ok i0
      obtain ⟨k1, u1⟩ := isInt_ok i1
      rw [run_equalIn_struct w (n + 1) t _ _ hfo st, hff, hl]
      simp only [Op.eqFields, ne_eq, n0, n1, not_false_eq_true, if_true, Sem.run_bind, Sem.run_ite, o0, o1, part_int i0 #[Value.int .i64 a, .int .i64 b] 0 (.int .i64 a) rfl, part_int i0 #[Value.int .i64 c, .int .i64 d] 0 (.int .i64 c) rfl, Result.andThen_ok,
        run_equalIn_int _ n f0.type .i64 k0 a c u0, part_int i1 #[Value.int .i64 a, .int .i64 b] 1 (.int .i64 b) rfl, part_int i1 #[Value.int .i64 c, .int .i64 d] 1 (.int .i64 d) rfl, run_equalIn_int _ n f1.type .i64 k1 b d u1, Sem.run_pure]
      cases a == c <;> cases b == d <;> rfl
    · cases h
  · cases h
theorem part_two {t : TypeId} (h1 : tag P t = some true) (h2 : tsz P t = some 2) (a b c : Int) (w : World) : (part t #[.int .i64 a, .int .i64 b, .int .i64 c] 1).run P w = .ok (.agg #[.int .i64 b, .int .i64 c]) w := by
  unfold part
  simp only [Sem.run_bind, run_isAgg' h1, Result.andThen_ok, if_true, run_sizeOf' h2]
  rfl
theorem check_int {t : TypeId} (h : isIntT P t = true) (e : Bool) (n : Nat) (q : IntKind) (a : Int) (w : World) : (Instr.checkKey e (n + 1) t (.int q a)).run P w = .ok () w := by
  obtain ⟨k, hk⟩ := isInt_ok h
  unfold Instr.checkKey
  simp only [Sem.run_bind, run_underlying hk, Result.andThen_ok]
  rfl
theorem run_forIn_two {f : Field → Sem (ForInStep PUnit)} {f0 f1 : Field} {fs : Array Field} (hl : fs.toList = [f0, f1]) (w : World) (h0 : (f f0).run P w = .ok (.yield ⟨⟩) w) (h1 : (f f1).run P w = .ok (.yield ⟨⟩) w) :
    (forIn fs PUnit.unit fun x _ => f x : Sem PUnit).run P w = .ok ⟨⟩ w := by
  obtain ⟨l⟩ := fs
  simp only at hl
  subst hl
  simp only [List.forIn_toArray, List.forIn_cons, List.forIn_nil, Sem.run_bind, h0, h1, Result.andThen_ok, Sem.run_pure]
theorem run_getO {r : Nat} {en : Array MapEntry} {ck : Nat} {w : World} (h : w.heap[r]? = some (.map en ck)) : (getObj r).run P w = .ok (.map en ck) w := by simp [getObj, Sem.run, h]
theorem run_setO {r : Nat} {en : Array MapEntry} {ck : Nat} {w : World} (o' : Obj) (h : w.heap[r]? = some (.map en ck)) : (setObj r o').run P w = .ok () (putO w r o') := by simp [setObj, Sem.run, h, putO]
theorem check_two {t : TypeId} (h : teq2 P t = true) (e : Bool) (n : Nat) (a b : Int) (w : World) : (Instr.checkKey e (n + 2) t (.agg #[.int .i64 a, .int .i64 b])).run P w = .ok () w := by
  unfold teq2 at h
  split at h
  · rename_i fs hfs
    split at h
    · rename_i f0 f1 hl
      simp only [Bool.and_eq_true, Bool.not_eq_true', bne_iff_ne, ne_eq, beq_iff_eq] at h
      obtain ⟨⟨⟨⟨⟨⟨⟨n0, n1⟩, o0⟩, o1⟩, i0⟩, i1⟩, st⟩, eg⟩ := h
      unfold Instr.checkKey
      simp only [Sem.run_bind, run_underlying hfs, Result.andThen_ok]
      rw [run_forIn_two (f := _) hl w ?_ ?_]
      · rfl
      · simp only [n0, if_true, ne_eq, not_false_eq_true, Sem.run_bind, o0, part_int i0 #[Value.int .i64 a, .int .i64 b] 0 (.int .i64 a) rfl, Result.andThen_ok, check_int i0, Sem.run_pure]
      · simp only [n1, if_true, ne_eq, not_false_eq_true, Sem.run_bind, o1, part_int i1 #[Value.int .i64 a, .int .i64 b] 1 (.int .i64 b) rfl, Result.andThen_ok, check_int i1, Sem.run_pure]
    · cases h
  · cases h
theorem key_facts {t : TypeId} (h : keyT P t = true) (e : Bool) (a b c : Int) (w : World) : (∃ fs, P.underlying t = some (.struct fs)) ∧ (Instr.checkKey e 10000 t (kV a b c)).run P w = .ok () w ∧
    ∀ x y z : Int, (Op.equal t (kV a b c) (kV x y z)).run P w = .ok (decide (a = x ∧ b = y ∧ c = z)) w := by
  unfold keyT at h
  split at h
  · rename_i fs hfs
    split at h
    · rename_i f0 f1 hl
      simp only [Bool.and_eq_true, Bool.not_eq_true', bne_iff_ne, ne_eq, beq_iff_eq] at h
      obtain ⟨⟨⟨⟨⟨⟨⟨⟨n0, n1⟩, o0⟩, o1⟩, i0⟩, t1⟩, tg⟩, ts⟩, st⟩ := h
      refine ⟨⟨fs, hfs⟩, ?_, fun x y z => ?_⟩
      · unfold Instr.checkKey kV
        simp only [Sem.run_bind, run_underlying hfs, Result.andThen_ok]
        rw [run_forIn_two (f := _) hl w ?_ ?_]
        · rfl
        · simp only [n0, if_true, ne_eq, not_false_eq_true, Sem.run_bind, o0, part_int i0 #[Value.int .i64 a, .int .i64 b, .int .i64 c] 0 (.int .i64 a) rfl, Result.andThen_ok, check_int i0, Sem.run_pure]
        · simp only [n1, if_true, ne_eq, not_false_eq_true, Sem.run_bind, o1, part_two tg ts, Result.andThen_ok, check_two t1, Sem.run_pure]
      · have hfo : P.underlying t = some (.struct (P.fieldsOf t)) := by
          rw [hfs]; unfold Program.fieldsOf; rw [hfs]
        have hff : P.fieldsOf t = fs := by unfold Program.fieldsOf; rw [hfs]
        obtain ⟨k0, u0⟩ := isInt_ok i0
        unfold Op.equal Op.maxDepth kV
        rw [run_equalIn_struct w 9999 t _ _ hfo st, hff, hl]
        simp only [Op.eqFields, ne_eq, n0, n1, not_false_eq_true, if_true, Sem.run_bind, Sem.run_ite, o0, o1, part_int i0 #[Value.int .i64 a, .int .i64 b, .int .i64 c] 0 (.int .i64 a) rfl, part_int i0 #[Value.int .i64 x, .int .i64 y, .int .i64 z] 0 (.int .i64 x) rfl, Result.andThen_ok,
          run_equalIn_int _ 9998 f0.type .i64 k0 a x u0, part_two tg ts, eq2_at t1 9997, Sem.run_pure]
        by_cases h1 : a = x <;> by_cases h2 : b = y <;> by_cases h3 : c = z <;> simp [h1, h2, h3] <;> rfl
    · cases h
  · cases h
def midx (a b c : Int) : List (D × D) → Option (Option Nat)
  | [] => some none
  | (.agg [.k .i64 x, .k .i64 y, .k .i64 z], _) :: r => match decide (a = x ∧ b = y ∧ c = z) with
    | true => some (some 0)
    | false => (midx a b c r).map (·.map (· + 1))
  | _ => none
def three (v : V) : Option (Int × Int × Int) := match aggV v with
  | some [.d (.k .i64 a), .d (.k .i64 b), .d (.k .i64 c)] => some (a, b, c)
  | _ => none
theorem three_ok {β : Bt} {fz : Fz} {v : V} {a b c : Int} {u : Value} (h : RepV β fz v u) (ht : three v = some (a, b, c)) : u = kV a b c := by
  unfold three at ht
  split at ht
  · rename_i a' b' c' hc
    cases ht
    obtain ⟨us, rfl, hl, hr⟩ := aggV_ok h hc
    obtain ⟨us⟩ := us
    match us, hl with
    | [x, y, z], _ =>
      have h1 := (hr 0 _ x rfl rfl).int
      have h2 := (hr 1 _ y rfl rfl).int
      have h3 := (hr 2 _ z rfl rfl).int
      subst h1; subst h2; subst h3
      rfl
  · cases ht
theorem kD_ok {fz : Fz} {x y z : Int} {u : Value} (h : RepD fz (.agg [.k .i64 x, .k .i64 y, .k .i64 z]) u) : u = kV x y z := three_ok (β := fun _ => none) (v := .d (.agg [.k .i64 x, .k .i64 y, .k .i64 z])) (.d h) rfl
def PRep (fz : Fz) (es : List (D × D)) (en : List MapEntry) : Prop := en.length = es.length ∧ ∀ (j : Nat) (d : D × D) (e : MapEntry), es[j]? = some d → en[j]? = some e → RepD fz d.1 e.key ∧ RepD fz d.2 e.val
def Fnd (P : Program) (fz : Fz) (w : World) (es : List (D × D)) (en : List MapEntry) (k : Value) (f : Sem (Option (Nat × Value))) (i : Nat) : Option Nat → Prop
  | none => f.run P w = .ok none w
  | some j => ∃ e d, en[j]? = some e ∧ es[j]? = some d ∧ e.key = k ∧ RepD fz d.2 e.val ∧ f.run P w = .ok (some (i + j, e.val)) w
theorem asking_ok {fz : Fz} {t : TypeId} (h : keyT P t = true) (a b c : Int) (w : World) : ∀ (es : List (D × D)) (en : List MapEntry) (i : Nat) (r : Option Nat), PRep fz es en → midx a b c es = some r →
    Fnd P fz w es en (kV a b c) (Instr.findAsking t (kV a b c) en i) i r := by
  intro es
  induction es with
  | nil =>
    intro en i r hp hm
    simp only [midx, Option.some.injEq] at hm
    subst hm
    have : en = [] := List.eq_nil_of_length_eq_zero hp.1
    subst this
    rfl
  | cons x es ih =>
    intro en i r hp hm
    cases en with
    | nil => have := hp.1; simp at this
    | cons e en =>
      obtain ⟨hl, hp'⟩ := hp
      have h0 := hp' 0 x e rfl rfl
      have htl : PRep fz es en := ⟨by simpa using hl, fun j d e h1 h2 => hp' (j + 1) d e (by simpa using h1) (by simpa using h2)⟩
      unfold midx at hm
      split at hm
      · rename_i heq; cases heq
      · rename_i x' y' z' dv r' heq
        cases heq
        have hk := kD_ok h0.1
        have heq := (key_facts h false a b c w).2.2 x' y' z'
        split at hm
        · rename_i hd
          cases hm
          have hd := of_decide_eq_true hd
          refine ⟨e, _, rfl, rfl, by rw [hk, hd.1, hd.2.1, hd.2.2], h0.2, ?_⟩
          simp only [Instr.findAsking, Sem.run_bind, hk, heq, Result.andThen_ok, decide_eq_true hd, if_true]
          rfl
        · rename_i hd
          simp only [Option.map_eq_some_iff] at hm
          obtain ⟨r0, hm, rfl⟩ := hm
          have := ih en (i + 1) r0 htl hm
          cases r0 with
          | none =>
            simp only [Fnd, Option.map_none, Instr.findAsking, Sem.run_bind, hk, heq, Result.andThen_ok, hd, Bool.false_eq_true, if_false]
            exact this
          | some j =>
            obtain ⟨e', d', k1, k2, k3, k4, k5⟩ := this
            refine ⟨e', d', by simpa using k1, by simpa using k2, k3, k4, ?_⟩
            simp only [Instr.findAsking, Sem.run_bind, hk, heq, Result.andThen_ok, hd, Bool.false_eq_true, if_false]
            rw [k5]
            congr 3
            omega
      · cases hm
theorem find_ok {fz : Fz} {t : TypeId} (h : keyT P t = true) (a b c : Int) (w : World) (es : List (D × D)) (en : List MapEntry) (r : Option Nat) (hp : PRep fz es en) (hm : midx a b c es = some r) :
    Fnd P fz w es en (kV a b c) (Instr.findKey t (kV a b c) en) 0 r := by
  obtain ⟨⟨fs, hfs⟩, _⟩ := key_facts h false a b c w
  have key := asking_ok h a b c w es en 0 r hp hm
  have hrun : (Instr.findKey t (kV a b c) en).run P w = (Instr.findAsking t (kV a b c) en 0).run P w := by
    unfold Instr.findKey
    simp only [Sem.run_bind, run_underlying hfs, Result.andThen_ok]
    cases en with
    | nil => rfl
    | cons e en =>
      have : Instr.findNow (.struct fs) (kV a b c) (e :: en) 0 = none := by
        unfold Instr.findNow Instr.sameNow
        rfl
      rw [this]
  cases r with
  | none => exact hrun.trans key
  | some j =>
    obtain ⟨e, d, k1, k2, k3, k4, k5⟩ := key
    exact ⟨e, d, k1, k2, k3, k4, hrun.trans k5⟩

/-- a map's key and element -/
def mke (P : Program) (t : TypeId) : Option (TypeId × TypeId) := match P.underlying t with
  | some (.map k e) => if keyT P k then some (k, e) else none
  | _ => none
theorem mke_ok {t k e : TypeId} (h : mke P t = some (k, e)) : P.underlying t = some (.map k e) ∧ keyT P k = true := by
  unfold mke at h
  split at h
  · split at h
    · rename_i h1 h2; cases h; exact ⟨h1, h2⟩
    · cases h
  · cases h
theorem ok_makeMap {t : TypeId} : Ok P s new ⟨dst, .makeMap t none, type, pos, after, guard⟩ ⟨[], [], [], [new], [(new, .imap [])], .h new⟩ := by
  refine ok_new ⟨rfl, fun j x v h => by simp [Op.operands] at h⟩ fun β fz a w hok hβ hv => ?_
  refine ⟨.map (some w.heap.size), .map (some w.heap.size), .map #[] 0, rfl, ?_, ⟨w.heap.size, #[], 0, rfl, heap_alloc_new w _, fun o => hok.new _ o (Nat.le_refl _), rfl, fun j d e h => by simp at h⟩, .h (upd_same _ _ _)⟩
  refine run_val (sv := Instr.makeMap t none) rfl ?_
  rfl
theorem imap_of {β : Bt} {fz : Fz} {w : World} {own : Nat → Prop} {h : Nat} {es : List (D × D)} {u : Value} (hh : HRep β fz w own h (.imap es)) (hu : RepV β fz (.h h) u) :
    ∃ b en ck, u = .map (some b) ∧ w.heap[b]? = some (.map en ck) ∧ (∀ o, fz b o = none) ∧ PRep fz es en.toList ∧ own b ∧ b < w.heap.size ∧ β h = some u := by
  obtain ⟨x, h1, h2, b, en, ck, rfl, h3, h4, h5, h6⟩ := hh
  cases hu with
  | h hb =>
    rw [h1] at hb; cases hb
    exact ⟨b, en, ck, rfl, h3, h4, ⟨by simpa using h5, fun j d e p q => h6 j d e p (by simpa using q)⟩, (h2 b rfl).1, (h2 b rfl).2, h1⟩
def lkV (es : List (D × D)) : Option Nat → V
  | some j => .d (es.getD j default).2
  | none => .u
theorem ok_lookup {t k e : TypeId} {x y : Operand} {h : Nat} {es : List (D × D)} {v : V} {a b c : Int} {r : Option Nat} {zs : List V} (hx : s.ev x = some (.h h)) (hy : s.ev y = some v) (hb : s.blk h = some (.imap es)) (hm : mke P t = some (k, e)) (hz : tz P e = some zs)
    (h3 : three v = some (a, b, c)) (hr : midx a b c es = some r) :
    Ok P s new ⟨dst, .lookup t x y true, type, pos, after, guard⟩ ⟨[.h h, v], [(h, .imap es)], [], [], [], .tup [lkV es r, .d (.b r.isSome)]⟩ :=
  ok_rd (vals2 rfl hx hy) hb fun β fz own ac w hh hv => by
    obtain ⟨m, en, ck, h1, h2, h4, h5, _, _, _⟩ := imap_of hh (hv 0 x _ rfl rfl)
    have hk := three_ok (hv 1 y _ rfl rfl) h3
    obtain ⟨m1, m2⟩ := mke_ok hm
    obtain ⟨z, hz, _⟩ := run_zero' hz w
    have hf := find_ok m2 a b c w es en.toList r h5 hr
    have hck := fun p => (key_facts m2 p a b c w).2.1
    cases r with
    | none =>
      refine ⟨.tuple #[z, .bool false], run_val (sv := Instr.lookup t (ac.eval x) (ac.eval y) true) rfl ?_, .tup rfl fun j d' u' p q => ?_⟩
      · rw [h1, hk]
        unfold Instr.lookup
        simp only [Sem.run_bind, run_underlying m1, Result.andThen_ok, run_getO h2, Sem.run_pure, hck, show (Instr.findKey k (kV a b c) en.toList).run P w = .ok none w from hf, hz, if_true]
      · match j with
        | 0 => simp at p q; subst p; exact .u _
        | 1 => simp at p q; subst p; subst q; exact .d (.b _)
        | j + 2 => simp at p
    | some j =>
      obtain ⟨e', d, k1, k2, k3, k4, k5⟩ := hf
      refine ⟨.tuple #[e'.val, .bool true], run_val (sv := Instr.lookup t (ac.eval x) (ac.eval y) true) rfl ?_, .tup rfl fun j' d' u' p q => ?_⟩
      · rw [h1, hk]
        unfold Instr.lookup
        simp only [Sem.run_bind, run_underlying m1, Result.andThen_ok, run_getO h2, Sem.run_pure, hck, k5, if_true]
      · match j' with
        | 0 =>
          simp at p q; subst p; subst q
          have : (es[j]?.getD default) = d := by rw [k2]; rfl
          simp only [lkV, List.getD_eq_getElem?_getD, this] at *
          exact .d k4
        | 1 => simp at p q; subst p; subst q; exact .d (.b _)
        | j + 2 => simp at p
def kD (a b c : Int) : D := .agg [.k .i64 a, .k .i64 b, .k .i64 c]
def mset (es : List (D × D)) (a b c : Int) (d : D) : Option Nat → List (D × D)
  | some j => es.set j (kD a b c, d)
  | none => es ++ [(kD a b c, d)]
theorem kD_rep (fz : Fz) (a b c : Int) : RepD fz (kD a b c) (kV a b c) := .agg rfl fun j d u p q => by
  match j with
  | 0 => simp at p q; subst p; subst q; exact .k _ _
  | 1 => simp at p q; subst p; subst q; exact .k _ _
  | 2 => simp at p q; subst p; subst q; exact .k _ _
  | j + 3 => simp at p
theorem ok_mapUpdate {t k e : TypeId} {x y z : Operand} {h : Nat} {es : List (D × D)} {v vz : V} {d : D} {a b c : Int} {r : Option Nat} (hx : s.ev x = some (.h h)) (hy : s.ev y = some v) (hz : s.ev z = some vz) (hb : s.blk h = some (.imap es)) (hm : mke P t = some (k, e))
    (h3 : three v = some (a, b, c)) (hd : vz.toD = some d) (hr : midx a b c es = some r) :
    Ok P s new ⟨dst, .mapUpdate t x y z, type, pos, after, guard⟩ ⟨[.h h, v, vz], [], [(h, .imap es)], [], [(h, .imap (mset es a b c d r))], .u⟩ := by
  obtain ⟨v1, v2⟩ := vals3 (ops := (Op.mapUpdate t x y z).operands) rfl hx hy hz
  refine ⟨?_, v1, v2, (fun x hx => by cases hx), (fun x hx => by simp at hx; subst hx; exact hb), (fun x hx => by cases hx), (fun x hx => .inr ⟨_, List.mem_singleton.2 rfl, by simp at hx; subst hx; rfl⟩)⟩
  intro β fz own ac w hok hown _ hhp _ _ _ hv next Q hnn
  have hh := hhp _ (List.mem_singleton.2 rfl)
  obtain ⟨m, en, ck, h1, h2, h4, h5, hob, hlt, hβ⟩ := imap_of hh (hv 0 x _ rfl rfl)
  have hk := three_ok (hv 1 y _ rfl rfl) h3
  have hvz := toD_rep vz hd (hv 2 z vz rfl rfl)
  obtain ⟨m1, m2⟩ := mke_ok hm
  have hf := find_ok m2 a b c w es en.toList r h5 hr
  have hck := fun p => (key_facts m2 p a b c w).2.1
  have fin : ∀ (en' : Array MapEntry) (ck' : Nat), (Instr.mapUpdate t (ac.eval x) (ac.eval y) (ac.eval z)).run P w = .ok () (putO w m (.map en' ck')) → PRep fz (mset es a b c d r) en'.toList → Oper.wp P ⟨dst, .mapUpdate t x y z, type, pos, after, guard⟩ ac w next Q := fun en' ck' hrun hp => by
    have hr : (execOp ac.eval ⟨dst, .mapUpdate t x y z, type, pos, after, guard⟩).run P w = .ok .skip (putO w m (.map en' ck')) := by
      show (do Instr.mapUpdate t (ac.eval x) (ac.eval y) (ac.eval z); pure Next.skip : Sem Next).run P w = _
      simp only [Sem.run_bind, hrun, Result.andThen_ok]
      rfl
    unfold Oper.wp
    rw [hr, Oper.upon_skip]
    rw [h1] at hβ
    have hB : HB β fz (putO w m (.map en' ck')) (.map (some m)) (.imap (mset es a b c d r)) := ⟨m, en', ck', rfl, putO_same hlt, h4, by simpa using hp.1, fun j d e p q => hp.2 j d e p (by simpa using q)⟩
    exact hnn _ _ _ _ (Post.put hok hβ rfl ⟨hob, hlt⟩ h4 hB (.u _))
  have huw : ∀ o, ({ w with heap := w.heap.setIfInBounds m o } : World) = putO w m o := fun _ => rfl
  cases r with
  | none =>
    refine fin (en.push { key := kV a b c, val := ac.eval z, born := ck }) (ck + 1) ?_ ⟨by simp [mset, h5.1], fun j d' e' p q => ?_⟩
    · rw [h1, hk]
      unfold Instr.mapUpdate
      simp only [Sem.run_bind, run_underlying m1, Result.andThen_ok, run_getO h2, hck, show (Instr.findKey k (kV a b c) en.toList).run P w = .ok none w from hf, run_setO _ h2]
    · have hl := h5.1
      simp only [Array.toList_push] at q
      simp only [mset] at p
      by_cases hj : j < es.length
      · rw [List.getElem?_append_left hj] at p
        rw [List.getElem?_append_left (by omega)] at q
        exact h5.2 j d' e' p q
      · rw [List.getElem?_append_right (by omega)] at p
        rw [List.getElem?_append_right (by omega), hl] at q
        match hjj : j - es.length with
        | 0 =>
          rw [hjj] at p q
          simp at p q; subst p; subst q
          exact ⟨kD_rep fz a b c, hvz⟩
        | i + 1 => rw [hjj] at p; simp at p
  | some i =>
    obtain ⟨e', d0, k1, k2, k3, k4, k5⟩ := hf
    refine fin (en.modify i fun e => { e with key := kV a b c, val := ac.eval z }) ck ?_ ⟨by simp [mset, h5.1], fun j d' e'' p q => ?_⟩
    · rw [h1, hk]
      have hst : (Instr.keyThatStays (((en[i]?).map (·.key)).getD (kV a b c)) (kV a b c)).run P w = .ok (kV a b c) w := by
        have : en[i]? = some e' := by simpa using k1
        rw [this]
        simp only [Option.map_some, Option.getD_some, k3]
        unfold Instr.keyThatStays
        have : Instr.sameBits 10000 (kV a b c) (kV a b c) = true := by simp [kV, Instr.sameBits]
        rw [this]
        rfl
      unfold Instr.mapUpdate
      simp only [Sem.run_bind, run_underlying m1, Result.andThen_ok, run_getO h2, hck, k5, hst, Nat.zero_add, run_setO _ h2]
    · rw [Array.toList_modify] at q
      simp only [mset] at p
      rw [List.getElem?_set] at p
      rw [List.getElem?_modify] at q
      by_cases hj : i = j
      · subst hj
        rw [if_pos rfl] at p
        split at p
        · cases p
          rw [k1] at q
          simp only [if_true] at q
          cases q
          exact ⟨kD_rep fz a b c, hvz⟩
        · cases p
      · rw [if_neg hj] at p
        simp only [if_neg hj] at q
        have q : en.toList[j]? = some e'' := by
          cases hq : en.toList[j]? with
          | none => rw [hq] at q; cases q
          | some y => rw [hq] at q; exact q
        exact h5.2 j d' e'' p q
end
end Go.Lm

/- The logical machine (part 6 of 7): a reading of code as conditions, proved sound; no program in sight. -/
import Derived.Test.YtkgkhggcahmiiaaGreatDoorEngE
import Derived.Lib.Bytealg
/- The logical machine: closed runs, by computation. -/
set_option linter.constructorNameAsVariable false
namespace Go.Lm
open Go Go.RowKit

/-! ### the machine -/
section
variable (P : Program) (W : FuncId → Bool) (E : FuncId → List D → Option D) (T : FuncId → List D → Option LO) (fn : Nat → Option Func)
abbrev Ex := Nat → List It → LS → Option (Fx × LS)
/-- the first handle from which on all are free, at a call in a region of so many operations -/
def LS.top (s : LS) (n : Nat) : Nat := s.taken.foldl (fun m h => if m ≤ h then h + 1 else m) (s.fresh + n)
/-- the one call that was put off -/
def finD (rec : Ex) (m : Option D) (g : FuncId) (args : List V) (s : LS) (rs : List ResultVar) : Option LO := match V.lt.lts (s.top 0) (V.frz.go args) && (s.blocks (hsV.go args 0)).all (fun x => Nat.blt x.1 (s.top 0) && x.2.lt (s.top 0)) with
  | true => match fn g with
    | some f => match f.body with
      | some (.seq (.region _ ⟨[⟨some t, .call ⟨.builtin .recover, ⟨[]⟩, _⟩, _, _, _, none⟩]⟩ false) rest) => match Nat.ble args.length f.ntmps && Nat.blt t f.ntmps with
        | true => match rec f.ntmps [.code rest] ⟨(t, recV m) :: envV 0 (V.frz.go args), (s.blocks (hsV.go args 0)).map (fun x => (x.1, some x.2)), s.top 0, [], []⟩ with
          | some (.ret, s') => match s'.dfs, resL P s' f.results.toList with
            | [], some vs => match (s'.blocks (hsV.go vs ((s.blocks (hsV.go args 0)).foldl (fun m x => m ||| 1 <<< x.1) 0))).all (fun x => (Nat.ble (s.top 0) x.1 && Nat.blt x.1 s'.settle.fresh) || (s.blocks (hsV.go args 0)).any (fun z => Nat.beq z.1 x.1)) with
              | true => match resL P (s.app none ⟨[], [], s.blocks (hsV.go args 0), List.range' (s.top 0) (s'.settle.fresh - s.top 0), s'.blocks (hsV.go vs ((s.blocks (hsV.go args 0)).foldl (fun m x => m ||| 1 <<< x.1) 0)), pack vs⟩) rs with
                | some ws => ((pack ws).toDh (s.app none ⟨[], [], s.blocks (hsV.go args 0), List.range' (s.top 0) (s'.settle.fresh - s.top 0), s'.blocks (hsV.go vs ((s.blocks (hsV.go args 0)).foldl (fun m x => m ||| 1 <<< x.1) 0)), pack vs⟩)).map .ret
                | none => none
              | false => none
            | _, _ => none
          | _ => none
        | false => none
      | _ => none
    | none => none
  | false => none
def callX (rec : Ex) (g : FuncId) (ds : List D) : Option LO := match T g ds with
  | some o => some o
  | none => match fn g with
    | some f => match f.body with
      | some c => match Nat.ble ds.length f.ntmps with
        | true => match rec f.ntmps [.code c] ⟨envD 0 ds, [], 0, [], []⟩ with
          | some (.ret, s') => match s'.dfs, resL P s' f.results.toList with
            | [], some vs => ((pack vs).toDh s').map .ret
            | [(.func g', cap, as)], _ => finD P fn rec none g' (as ++ cap) s' f.results.toList
            | _, _ => none
          | some (.pan d, s') => match s'.dfs with
            | [] => some (.pan d)
            | [(.func g', cap, as)] => finD P fn rec (some d) g' (as ++ cap) s' f.results.toList
            | _ => none
          | none => none
        | false => none
      | none => none
    | none => none
def callH (rec : Ex) (g : FuncId) (args : List V) (N : Nat) (H : List (Nat × Blk)) : Option (V × List (Nat × Blk) × Nat) := match V.lt.lts N (V.frz.go args) && H.all (fun x => Nat.blt x.1 N && x.2.lt N) with
  | true => match fn g with
    | some f => match f.body with
      | some c => match Nat.ble args.length f.ntmps with
        | true => match rec f.ntmps [.code c] ⟨envV 0 (V.frz.go args), H.map (fun x => (x.1, some x.2)), N, [], []⟩ with
          | some (.ret, s') => match s'.dfs, resL P s' f.results.toList with
            | [], some vs => some (pack vs, s'.blocks (hsV.go vs (H.foldl (fun m x => m ||| 1 <<< x.1) 0)), s'.settle.fresh)
            | _, _ => none
          | _ => none
        | false => none
      | none => none
    | none => none
  | false => none
def hX (rec : Ex) (nt : Nat) (all : Array Oper) (i : Nat) (o : Oper) (l : List Oper) (tr : List (Nat × List Nat × List Nat)) (draw : Bool) (k : List It) (s : LS) (g : FuncId) (args vals : List V) : Option (Fx × LS) := match callH P fn rec g args (s.top all.size) (s.blocks (hsV.go args 0)) with
      | some (r, H', N') => match dlt o.dst nt && H'.all (fun x => (Nat.ble (s.top all.size) x.1 && Nat.blt x.1 N') || (s.blocks (hsV.go args 0)).any (fun z => Nat.beq z.1 x.1)) with
        | true => rec nt (.ops all (i + 1) l ((i, rdh (some ⟨vals, [], s.blocks (hsV.go args 0), List.range' (s.top all.size) (N' - s.top all.size), H', r⟩), wrh (some ⟨vals, [], s.blocks (hsV.go args 0), List.range' (s.top all.size) (N' - s.top all.size), H', r⟩)) :: tr) draw :: k) (s.app o.dst ⟨vals, [], s.blocks (hsV.go args 0), List.range' (s.top all.size) (N' - s.top all.size), H', r⟩)
        | false => none
      | none => none
def opX (rec : Ex) (nt : Nat) (all : Array Oper) (i : Nat) (o : Oper) (l : List Oper) (tr : List (Nat × List Nat × List Nat)) (draw : Bool) (k : List It) (s : LS) : XR → Option (Fx × LS)
  | .one c e => match dlt o.dst nt && (!s.taken.contains (s.fresh + i) && c) with
    | true => rec nt (.ops all (i + 1) l ((i, rdh (some e), wrh (some e)) :: tr) draw :: k) (s.app o.dst e)
    | false => none
  | .call g args vals => match if W g then none else V.toD.toDs args with
    | some ds => match E g ds with
      | some r => match dlt o.dst nt with
        | true => rec nt (.ops all (i + 1) l ((i, [], []) :: tr) draw :: k) ⟨putE o.dst (.d r) s.env, s.heap, s.fresh, s.taken, s.dfs⟩
        | false => none
      | none => match callX P T fn rec g ds with
      | some (.ret r) => match dlt o.dst nt with
        | true => rec nt (.ops all (i + 1) l ((i, [], []) :: tr) draw :: k) ⟨putE o.dst (.d r) s.env, s.heap, s.fresh, s.taken, s.dfs⟩
        | false => none
      | some (.pan d) => match draw with
        | false => some (.pan d, s)
        | true => none
      | none => none
    | none => hX P fn rec nt all i o l tr draw k s g args vals
  | .pan d => match draw with
    | false => some (.pan d, s)
    | true => none
  | .dfr x => match draw, dlt o.dst nt with
    | false, true => rec nt (.ops all (i + 1) l ((i, [], []) :: tr) draw :: k) { s with env := putE o.dst uV s.env, dfs := x :: s.dfs }
    | _, _ => none
  | .none => none
def stp (rec : Ex) (nt : Nat) : List It → LS → Option (Fx × LS)
  | [], s => some (.ret, s)
  | .blk _ :: k, s => rec nt k s
  | .back _ :: _, _ => none
  | .ops all _ [] tr draw :: k, s => match draw with
    | false => rec nt k s.settle
    | true => match edgesB all && chkP all tr with
      | true => rec nt k s.settle
      | false => none
  | .ops all i (o :: l) tr draw :: k, s => match guardOf all s o with
    | .yes => rec nt (.op1 all i o l tr draw :: k) s
    | .ask t p want => match p == want with
      | true => rec nt (.op1 all i o l tr draw :: k) (s.setB t want)
      | false => match dlt o.dst nt with
        | true => rec nt (.ops all (i + 1) l ((i, [], []) :: tr) draw :: k) ((s.setB t (!want)).skip o.dst)
        | false => none
    | .no => match dlt o.dst nt with
      | true => rec nt (.ops all (i + 1) l ((i, [], []) :: tr) draw :: k) (s.skip o.dst)
      | false => none
    | .bad => none
  | .op1 all i o l tr draw :: k, s => opX P W E T fn rec nt all i o l tr draw k s (xoRun P s (s.fresh + i) o)
  | .code c :: k, s => match c with
    | .skip => rec nt k s
    | .label _ => rec nt k s
    | .seq a b => rec nt (.code a :: .code b :: k) s
    | .block id c => rec nt (.code c :: .blk id :: k) s
    | .scope c => rec nt (.code c :: k) s
    | .exit id => match popTo id k with
      | some k' => rec nt k' s
      | none => none
    | .ret => some (.ret, s)
    | .cond (.tmp t) a b => match lk s.env t with
      | some (.d (.b true)) => rec nt (.code a :: k) (s.setB t true)
      | some (.d (.b false)) => rec nt (.code b :: k) (s.setB t false)
      | _ => none
    | .cond (.const (.bool true)) a b => rec nt (.code a :: k) s
    | .cond (.const (.bool false)) a b => rec nt (.code b :: k) s
    | .region _ ops draw => rec nt (.ops ops 0 ops.toList [] draw :: k) s
    | .loop c => rec nt (.code c :: .code (.loop c) :: k) s.clean
    | _ => none
def ex (n : Nat) : Ex := Nat.rec (motive := fun _ => Ex) (fun _ _ _ => none) (fun _ rec => stp P W E T fn rec) n
theorem ex_succ (n : Nat) : ex P W E T fn (n + 1) = stp P W E T fn (ex P W E T fn n) := rfl
end
def tailPlain (k : List It) : Prop := ∀ y ∈ k.tail, y.plain
theorem popTo_plain {id : Nat} : ∀ {k k' : List It}, popTo id k = some k' → (∀ y ∈ k, y.plain) → ∀ y ∈ k', y.plain
  | [], _, h, _ => by cases h
  | x :: k, k', h, hk => by
    have hk' : ∀ y ∈ k, y.plain := fun y hy => hk y (List.mem_cons_of_mem _ hy)
    cases x with
    | blk j =>
      simp only [popTo] at h
      split at h
      · cases h; exact hk'
      · exact popTo_plain h hk'
    | code c => exact popTo_plain (k := k) h hk'
    | ops _ _ _ _ _ => exact popTo_plain (k := k) h hk'
    | op1 _ _ _ _ _ _ => exact popTo_plain (k := k) h hk'
    | back B => exact popTo_plain (k := k) h hk'
theorem plain_tail {k : List It} (h : ∀ y ∈ k, y.plain) : tailPlain k := fun y hy => h y (List.mem_of_mem_tail hy)
theorem plain_cons {x : It} {k : List It} (h : ∀ y ∈ k, y.plain) : tailPlain (x :: k) := h

section
variable {P : Program} {W : FuncId → Bool} {E : FuncId → List D → Option D} {T : FuncId → List D → Option LO} {fn : Nat → Option Func}
def ExOk (P : Program) (ex : Ex) : Prop := ∀ (nt : Nat) (k : List It) (s : LS) (fx : Fx) (s' : LS), tailPlain k → ex nt k s = some (fx, s') → ∀ (n0 : Nat) (F : Fx → LS → Prop), F fx s' → gx ⟨P, nt, n0, xo P, F⟩ k s
theorem top_free {s : LS} {n h : Nat} (hh : s.top n ≤ h) : s.free h := by
  have := settle_ge s.taken (s.fresh + n)
  refine ⟨by unfold LS.top at hh; omega, fun hm => ?_⟩
  have := this.2 h hm
  unfold LS.top at hh
  omega
theorem settle_free {s : LS} {h : Nat} (hh : s.settle.fresh ≤ h) : s.free h := by
  have := settle_ge s.taken s.fresh
  simp only [LS.settle] at hh
  exact ⟨by omega, fun hm => by have := this.2 h hm; omega⟩
theorem frz_length : ∀ args : List V, (V.frz.go args).length = args.length
  | [] => rfl
  | _ :: vs => congrArg (· + 1) (frz_length vs)
theorem finD_ok (hmx : P.follows .mixedOrders = true) (hfn : ∀ g f, fn g = some f → P.funcs[g]? = some f ∧ Enters P g) {rec : Ex} (hr : ExOk P rec) {m : Option D} {g : FuncId} {cap as : List V} {s : LS} {rs : List ResultVar} {o : LO} {fx : Fx} (hd : s.dfs = [(.func g, cap, as)]) (hm : m = match fx with | .ret => none | .pan d => some d)
    (h : finD P fn rec m g (as ++ cap) s rs = some o) : RetX P rs o fx s := by
  unfold finD at h
  split at h
  · rename_i hl
    simp only [Bool.and_eq_true, List.all_eq_true] at hl
    split at h
    · rename_i f hf
      obtain ⟨h1, h2⟩ := hfn _ _ hf
      split at h
      · rename_i id t tys ty pos aft rest hb
        split at h
        · rename_i hn
          simp only [Bool.and_eq_true] at hn
          split at h
          · rename_i s' he
            split at h
            · rename_i vs hd' hv
              split at h
              · rename_i hk
                simp only [List.all_eq_true, Bool.or_eq_true, Bool.and_eq_true, List.any_eq_true] at hk
                split at h
                · rename_i ws hw
                  simp only [Option.map_eq_some_iff] at h
                  obtain ⟨d, h, rfl⟩ := h
                  refine .inr ⟨d, g, cap, as, _, _, _, _, rfl, hd, h2, NG.toH dfrC_mono (NG.of_gxD hmx h1 hb ?_ (by rw [Nat.blt_eq] at hn; exact hn.2) fun F hF => ?_) hl.1 (fun x hx => ?_), fun x hx => LS.blocks_ok hx, fun x hx => ?_, fun x hx => ?_, ws, hw, h⟩
                  · rw [frz_length]; exact Nat.le_of_ble_eq_true hn.1
                  · subst hm
                    exact hr _ _ _ _ _ (fun y hy => by cases hy) he _ F (hF _ _ ⟨hd', vs, hv, rfl, fun x hx => LS.blocks_ok hx, fun x hx => settle_free hx⟩)
                  · have := hl.2 x hx
                    rw [Nat.blt_eq] at this
                    exact this
                  · rw [List.mem_range'_1] at hx
                    exact top_free hx.1
                  · rcases hk x hx with ⟨q1, q2⟩ | ⟨z, hz, q⟩
                    · refine .inl ?_
                      rw [Nat.blt_eq] at q2
                      have := Nat.le_of_ble_eq_true q1
                      rw [List.mem_range'_1]
                      omega
                    · exact .inr ⟨z, hz, Nat.eq_of_beq_eq_true q⟩
                · cases h
              · cases h
            · cases h
          · cases h
        · cases h
      · cases h
    · cases h
  · cases h
theorem callX_ok (hmx : P.follows .mixedOrders = true) (hfn : ∀ g f, fn g = some f → P.funcs[g]? = some f ∧ Enters P g) (hT : ∀ g ds o, T g ds = some o → LSpec P g ds o) {rec : Ex} (hr : ExOk P rec) {g : FuncId} {ds : List D} {o : LO} (h : callX P T fn rec g ds = some o) : LSpec P g ds o := by
  unfold callX at h
  split at h
  · rename_i o' ht
    cases h
    exact hT _ _ _ ht
  · split at h
    · rename_i f hf
      obtain ⟨h1, h2⟩ := hfn _ _ hf
      split at h
      · rename_i c hc
        split at h
        · rename_i hl
          refine ⟨h2, SpecP.of_gxD hmx h1 hc (Nat.le_of_ble_eq_true hl) fun F hF => ?_⟩
          split at h
          · rename_i s' he
            split at h
            · rename_i vs hd hv
              simp only [Option.map_eq_some_iff] at h
              obtain ⟨d, h, rfl⟩ := h
              exact hr _ _ _ _ _ (fun y hy => by cases hy) he 0 F (hF _ _ (.inl ⟨hd, vs, hv, h⟩))
            · rename_i hd
              exact hr _ _ _ _ _ (fun y hy => by cases hy) he 0 F (hF _ _ (finD_ok hmx hfn hr hd rfl h))
            · cases h
          · rename_i d s' he
            split at h
            · rename_i hd
              cases h
              exact hr _ _ _ _ _ (fun y hy => by cases hy) he 0 F (hF _ _ (.inl ⟨hd, rfl⟩))
            · rename_i hd
              exact hr _ _ _ _ _ (fun y hy => by cases hy) he 0 F (hF _ _ (finD_ok hmx hfn hr hd rfl h))
            · cases h
          · cases h
        · cases h
      · cases h
    · cases h
theorem callH_ok (hmx : P.follows .mixedOrders = true) (hfn : ∀ g f, fn g = some f → P.funcs[g]? = some f ∧ Enters P g) {rec : Ex} (hr : ExOk P rec) {g : FuncId} {args : List V} {N N' : Nat} {H H' : List (Nat × Blk)} {r : V} (h : callH P fn rec g args N H = some (r, H', N')) :
    Enters P g ∧ SpecH P g args [] H (List.range' N (N' - N)) H' r := by
  unfold callH at h
  split at h
  · rename_i hl
    simp only [Bool.and_eq_true, List.all_eq_true] at hl
    split at h
    · rename_i f hf
      obtain ⟨h1, h2⟩ := hfn _ _ hf
      split at h
      · rename_i c hc
        split at h
        · rename_i hn
          split at h
          · rename_i s' he
            split at h
            · rename_i vs hd hv
              simp only [Option.some.injEq, Prod.mk.injEq] at h
              obtain ⟨rfl, rfl, rfl⟩ := h
              refine ⟨h2, SpecN.toH (SpecN.of_gx hmx h1 hc ?_ fun F hF => ?_) hl.1 fun x hx => ?_⟩
              · rw [frz_length]
                exact Nat.le_of_ble_eq_true hn
              · exact hr _ _ _ _ _ (fun y hy => by cases hy) he N F (hF _ _ ⟨hd, vs, hv, rfl, fun x hx => LS.blocks_ok hx, fun x hx => settle_free hx⟩)
              · have := hl.2 x hx
                rw [Nat.blt_eq] at this
                exact this
            · cases h
          · cases h
        · cases h
      · cases h
    · cases h
  · cases h
theorem hX_ok (hmx : P.follows .mixedOrders = true) (hfn : ∀ g f, fn g = some f → P.funcs[g]? = some f ∧ Enters P g) {rec : Ex} (hr : ExOk P rec) {nt : Nat} {all : Array Oper} {i : Nat} {o : Oper} {l : List Oper} {tr : List (Nat × List Nat × List Nat)} {draw : Bool} {k : List It} {s s' : LS} {fx : Fx} {g : FuncId} {args vals : List V} {n0 : Nat} {F : Fx → LS → Prop}
    (hk : ∀ y ∈ k, y.plain) (hF : F fx s') (h : hX P fn rec nt all i o l tr draw k s g args vals = some (fx, s')) (d : Option (List D)) : XC ⟨P, nt, n0, xo P, F⟩ g args d vals all i o l tr draw k s := by
  unfold hX at h
  split at h
  · rename_i r H' N' hc
    obtain ⟨h1, h2⟩ := callH_ok hmx hfn hr hc
    split at h
    · rename_i hd
      simp only [Bool.and_eq_true, List.all_eq_true, Bool.or_eq_true, List.any_eq_true] at hd
      refine XC.gen [] _ _ _ _ h1 h2 (fun x hx => by cases hx) (fun x hx => LS.blocks_ok hx) (fun x hx => ?_) (fun x hx => ?_) hd.1 (hr nt _ _ fx s' (plain_cons hk) h n0 F hF)
      · rw [List.mem_range'_1] at hx
        exact top_free hx.1
      · rcases hd.2 x hx with ⟨q1, q2⟩ | ⟨z, hz, q⟩
        · refine .inl ?_
          rw [Nat.blt_eq] at q2
          have := Nat.le_of_ble_eq_true q1
          rw [List.mem_range'_1]
          omega
        · exact .inr ⟨z, hz, Nat.eq_of_beq_eq_true q⟩
    · cases h
  · cases h
theorem stp_ok (hmx : P.follows .mixedOrders = true) (hfn : ∀ g f, fn g = some f → P.funcs[g]? = some f ∧ Enters P g) (hE : ∀ g ds d, E g ds = some d → Direct P g ds d) (hT : ∀ g ds o, T g ds = some o → LSpec P g ds o) {rec : Ex} (hr : ExOk P rec) : ExOk P (stp P W E T fn rec) := by
  intro nt k s fx s' hk h n0 F hF
  have go : ∀ k' s'', tailPlain k' → rec nt k' s'' = some (fx, s') → gx ⟨P, nt, n0, xo P, F⟩ k' s'' := fun k' s'' h1 h2 => hr nt k' s'' fx s' h1 h2 n0 F hF
  cases k with
  | nil =>
    simp only [stp, Option.some.injEq, Prod.mk.injEq] at h
    obtain ⟨rfl, rfl⟩ := h
    rw [gx_nil]; exact hF
  | cons x k =>
    have hk : ∀ y ∈ k, y.plain := hk
    cases x with
    | blk id => rw [gx_blk]; exact go _ _ (plain_tail hk) h
    | back B => cases h
    | ops all i l tr draw =>
      cases l with
      | nil =>
        rw [gx_end]
        cases draw with
        | false => exact go _ _ (plain_tail hk) h
        | true =>
          simp only [stp] at h
          split at h
          · rename_i hc
            exact ⟨hc, go _ _ (plain_tail hk) h⟩
          · cases h
      | cons o l =>
        rw [gx_ops]
        simp only [stp] at h
        split at h
        · rename_i hg
          rw [hg]
          exact go _ _ (plain_cons hk) h
        · rename_i t p want hg
          rw [hg]
          split at h
          · rename_i hp
            have hp : p = want := by simpa using hp
            refine ⟨fun _ => go _ _ (plain_cons hk) h, fun e => ?_⟩
            rw [hp] at e
            cases want <;> cases e
          · rename_i hp
            have hp : ¬ p = want := by simpa using hp
            split at h
            · rename_i hd
              exact ⟨fun e => absurd e hp, fun _ => ⟨hd, go _ _ (plain_cons hk) h⟩⟩
            · cases h
        · rename_i hg
          rw [hg]
          split at h
          · rename_i hd
            exact ⟨hd, go _ _ (plain_cons hk) h⟩
          · cases h
        · cases h
    | op1 all i o l tr draw =>
      rw [gx_op1]
      simp only [stp] at h
      generalize hx : xoRun P s (s.fresh + i) o = r at h
      have hx' : (xo P).run s (s.fresh + i) o = r := hx
      rw [show (Cf.mk P nt n0 (xo P) F).xo.run s (s.fresh + i) o = r from hx]
      cases r with
      | none => cases h
      | pan d =>
        simp only [opX] at h
        split at h
        · cases h; exact ⟨rfl, hF⟩
        · cases h
      | dfr x =>
        simp only [opX] at h
        split at h
        · rename_i hd
          exact ⟨rfl, hd, go _ _ (plain_cons hk) h⟩
        · cases h
      | one c e =>
        simp only [opX] at h
        split at h
        · rename_i hc
          simp only [Bool.and_eq_true, Bool.not_eq_true', List.contains_eq_mem, decide_eq_false_iff_not] at hc
          exact ⟨⟨hc.1, hc.2.1, hc.2.2⟩, go _ _ (plain_cons hk) h⟩
        · cases h
      | call g args vals =>
        simp only [opX] at h
        split at h
        · rename_i ds hds
          have hds : V.toD.toDs args = some ds := by
            split at hds
            · cases hds
            · exact hds
          show XC _ _ _ _ _ _ _ _ _ _ _ _ _
          rw [hds]
          split at h
          · rename_i r hc
            split at h
            · rename_i hd
              exact XC.ext (hE _ _ _ hc) hd (go _ _ (plain_cons hk) h)
            · cases h
          split at h
          · rename_i r hc
            split at h
            · rename_i hd
              exact XC.p (callX_ok hmx hfn hT hr hc) hd (go _ _ (plain_cons hk) h)
            · cases h
          · rename_i d hc
            split at h
            · cases h
              exact XC.pan (callX_ok hmx hfn hT hr hc) hF
            · cases h
          · cases h
        · exact hX_ok hmx hfn hr hk hF h _
    | code c =>
      simp only [stp] at h
      cases c with
      | skip => rw [gx_skip]; exact go _ _ (plain_tail hk) h
      | label l => rw [gx_label]; exact go _ _ (plain_tail hk) h
      | seq a b => rw [gx_seq]; exact go _ _ (plain_cons fun y hy => by rcases List.mem_cons.1 hy with rfl | hy; trivial; exact hk y hy) h
      | block id c => rw [gx_block]; exact go _ _ (plain_cons fun y hy => by rcases List.mem_cons.1 hy with rfl | hy; trivial; exact hk y hy) h
      | scope c => rw [gx_scope]; exact go _ _ (plain_cons hk) h
      | exit id =>
        rw [gx_exit]
        simp only at h
        split at h
        · rename_i k' hp
          rw [hp]
          exact go _ _ (plain_tail (popTo_plain hp hk)) h
        · cases h
      | ret =>
        simp only [Option.some.injEq, Prod.mk.injEq] at h
        obtain ⟨rfl, rfl⟩ := h
        rw [gx_ret]; exact hF
      | cond x a b =>
        cases x with
        | tmp t =>
          simp only at h
          split at h
          · rename_i hl
            rw [gx_cond, hl]
            exact ⟨fun _ => go _ _ (plain_cons hk) h, fun e => by cases e⟩
          · rename_i hl
            rw [gx_cond, hl]
            exact ⟨fun e => by (cases e), fun _ => go _ _ (plain_cons hk) h⟩
          · cases h
        | const v =>
          cases v with
          | bool p =>
            rw [gx]
            cases p
            · exact ⟨fun e => by (cases e), fun _ => go _ _ (plain_cons hk) h⟩
            · exact ⟨fun _ => go _ _ (plain_cons hk) h, fun e => by (cases e)⟩
          | _ => simp only at h; cases h
        | _ => simp only at h; cases h
      | region id ops draw => rw [gx_region]; exact go _ _ (plain_cons hk) h
      | loop c =>
        rw [gx_loop]
        exact loop_unroll hmx s.clean_wk hk (go _ _ (plain_cons fun y hy => by rcases List.mem_cons.1 hy with rfl | hy; trivial; exact hk y hy) h)
      | _ => simp only at h; cases h
theorem ex_ok (hmx : P.follows .mixedOrders = true) (hfn : ∀ g f, fn g = some f → P.funcs[g]? = some f ∧ Enters P g) (hE : ∀ g ds d, E g ds = some d → Direct P g ds d) (hT : ∀ g ds o, T g ds = some o → LSpec P g ds o) : ∀ n, ExOk P (ex P W E T fn n)
  | 0 => fun _ _ _ _ _ _ h => by cases h
  | n + 1 => stp_ok hmx hfn hE hT (ex_ok hmx hfn hE hT n)
/-- a closed run -/
theorem LSpec.run (hmx : P.follows .mixedOrders = true) (hfn : ∀ g f, fn g = some f → P.funcs[g]? = some f ∧ Enters P g) (hE : ∀ g ds d, E g ds = some d → Direct P g ds d) (hT : ∀ g ds o, T g ds = some o → LSpec P g ds o) (n : Nat) {g : FuncId} {ds : List D} {o : LO}
    (h : callX P T fn (ex P W E T fn n) g ds = some o) : LSpec P g ds o := callX_ok hmx hfn hT (ex_ok hmx hfn hE hT n) h
end
end Go.Lm
/- The logical machine: the same closed runs, in small steps for the kernel. -/
set_option linter.constructorNameAsVariable false
namespace Go.Lm
open Go Go.RowKit

/-! ### look-ups -/
def lkK {α : Type} : List (Nat × α) → Nat → Option α
  | [], _ => none
  | x :: l, n => match Nat.beq n x.1 with
    | true => some x.2
    | false => lkK l n
theorem lkK_eq {α : Type} (l : List (Nat × α)) (n : Nat) : lkK l n = lk l n := by
  induction l with
  | nil => rfl
  | cons x l ih =>
    obtain ⟨k, v⟩ := x
    simp only [lkK, lk]
    split
    · rename_i h; rw [if_pos (Nat.eq_of_beq_eq_true h)]
    · rename_i h; rw [if_neg (Nat.ne_of_beq_eq_false h)]; exact ih
def evK (s : LS) : Operand → Option V
  | .tmp t => lkK s.env t
  | .const c => some (constV c)
  | .func f => some (.d (.fn (.func f) [] []))
  | .global _ => none
theorem evK_eq (s : LS) (x : Operand) : evK s x = s.ev x := by
  cases x <;> simp only [evK, LS.ev, lkK_eq]
def evsK (s : LS) : List Operand → Option (List V)
  | [] => some []
  | x :: l => match evK s x with
    | some v => match evsK s l with
      | some vs => some (v :: vs)
      | none => none
    | none => none
theorem evsK_eq (s : LS) (l : List Operand) : evsK s l = s.evs l := by
  induction l with
  | nil => rfl
  | cons x l ih =>
    simp only [evsK, LS.evs, evK_eq, ih]
    cases s.ev x <;> cases s.evs l <;> rfl
def blkK (s : LS) (h : Nat) : Option Blk := match lkK s.heap h with
  | some b => b
  | none => none
theorem blkK_eq (s : LS) (h : Nat) : blkK s h = s.blk h := by
  simp only [blkK, LS.blk, lkK_eq]
  cases lk s.heap h <;> rfl

/-! ### operations -/
/-- what an operation gives: a value alone, or more -/
inductive KR where
  | v (c : Bool) (vals : List V) (x : V)
  | x (r : XR)
def KR.xr : KR → XR
  | .v c vals z => .one c (pu vals z)
  | .x r => r
def kMove (s : LS) (x : Operand) : KR := match evK s x with
  | some v => .v true [v] v
  | none => .x .none
def kPick3 (c x y : V) : KR := match c with
  | .d (.b p) => .v true [.d (.b p), x, y] (pk p x y)
  | _ => .x .none
def kPick2 (c x : V) : Option V → KR
  | some y => kPick3 c x y
  | none => .x .none
def kPick1 (c : V) (x y : Option V) : KR := match x with
  | some x => kPick2 c x y
  | none => .x .none
def kPick (s : LS) (c x y : Operand) : KR := match evK s c with
  | some c => kPick1 c (evK s x) (evK s y)
  | none => .x .none
def kLoad3 (h off : Nat) (cs : List V) (e : TypeId) : Option (Option Nat) → KR
  | some none => .x (.one (decide (off < cs.length)) ⟨[.p h off], [(h, .cells cs e)], [], [], [], cs.getD off .u⟩)
  | some (some n) => .x (.one (decide (off + n ≤ cs.length)) ⟨[.p h off], [(h, .cells cs e)], [], [], [], .agg ((cs.drop off).take n)⟩)
  | none => .x .none
def kLoad2 (P : Program) (t : TypeId) (h off : Nat) : Option Blk → KR
  | some (.cells cs e) => kLoad3 h off cs e (shp P t)
  | _ => .x .none
def kLoad1 (P : Program) (s : LS) (t : TypeId) : V → KR
  | .p h off => kLoad2 P t h off (blkK s h)
  | v => .x (xoLoad P s t v)
def kLoad (P : Program) (s : LS) (t : TypeId) (x : Operand) : KR := match evK s x with
  | some v => kLoad1 P s t v
  | none => .x .none
def kStore3 (h off : Nat) (cs : List V) (e : TypeId) (v : V) (xs : List V) : Option Nat → KR
  | some n => .x (.one (decide (n = xs.length ∧ off + xs.length ≤ cs.length)) ⟨[.p h off, v], [], [(h, .cells cs e)], [], [(h, .cells (setL cs off xs) e)], .u⟩)
  | none => .x .none
def kStore2 (P : Program) (t : TypeId) (h off : Nat) (v : V) (xs : Option (List V)) : Option Blk → KR
  | some (.cells cs e) => match xs with
    | some xs => kStore3 h off cs e v xs (tsz P t)
    | none => .x .none
  | _ => .x .none
def kStore1 (P : Program) (s : LS) (t : TypeId) (v : V) : V → KR
  | .p h off => kStore2 P t h off v (cellsV v) (blkK s h)
  | _ => .x .none
def kStore (P : Program) (s : LS) (dst : Option Tmp) (t : TypeId) (x y : Operand) : KR := match dst with
  | none => match evK s x with
    | some vx => match evK s y with
      | some vy => kStore1 P s t vy vx
      | none => .x .none
    | none => .x .none
  | some _ => .x .none
def kAr (q r : IntKind) (m n z : Int) (c : Bool) : KR := match decide (q = r) with
  | true => .v c [.d (.k q m), .d (.k r n)] (.d (.k q z))
  | false => .x .none
def kCmp (q r : IntKind) (m n : Int) (z : Bool) : KR := match decide (q = r) with
  | true => .v true [.d (.k q m), .d (.k r n)] (.d (.b z))
  | false => .x .none
def kInt (P : Program) (t : TypeId) (op : BinOp) (q : IntKind) (m : Int) (r : IntKind) (n : Int) : KR := match op with
  | .add => kAr q r m n (m + n) (decide (fits q (m + n)))
  | .sub => kAr q r m n (m - n) (decide (fits q (m - n)))
  | .mul => kAr q r m n (m * n) (decide (fits q (m * n)))
  | .eql => kCmp q r m n (decide (m = n))
  | .neq => kCmp q r m n (!decide (m = n))
  | .lss => kCmp q r m n (decide (m < n))
  | .leq => kCmp q r m n (decide (m ≤ n))
  | .gtr => kCmp q r m n (decide (n < m))
  | .geq => kCmp q r m n (decide (n ≤ m))
  | op => .x (xoBin P op t (.d (.k q m)) (.d (.k r n)))
def kBin2 (P : Program) (t : TypeId) (op : BinOp) (q : IntKind) (m : Int) : V → KR
  | .d (.k r n) => kInt P t op q m r n
  | y => .x (xoBin P op t (.d (.k q m)) y)
def kBin1 (P : Program) (t : TypeId) (op : BinOp) (y : V) : V → KR
  | .d (.k q m) => kBin2 P t op q m y
  | x => .x (xoBin P op t x y)
def kBin (P : Program) (s : LS) (t : TypeId) (op : BinOp) (x y : Operand) : KR := match evK s x with
  | some vx => match evK s y with
    | some vy => kBin1 P t op vy vx
    | none => .x .none
  | none => .x .none
def kFA2 (h off : Nat) : Option Nat → KR
  | some n => .v true [.p h off] (.p h (off + n))
  | none => .x .none
def kFA3 (sz : Nat) (rows : List (List D)) (i j : Nat) : Option Nat → KR
  | some n => .v true [.q sz rows i j] (.q sz rows i (j + n))
  | none => .x .none
def kFA1 (P : Program) (t : TypeId) (f : Nat) : V → KR
  | .p h off => kFA2 h off (fo P t f)
  | .q sz rows i j => kFA3 sz rows i j (fo P t f)
  | _ => .x .none
def kFA (P : Program) (s : LS) (t : TypeId) (x : Operand) (f : Nat) : KR := match evK s x with
  | some v => kFA1 P t f v
  | none => .x .none
def kIA (P : Program) (s : LS) (t : TypeId) (x y : Operand) : KR := match evK s x with
  | some vx => match evK s y with
    | some vy => .x (xoIdx P t vx vy)
    | none => .x .none
  | none => .x .none
def kCall2 (f : V) (vs : List V) : Option (FuncId × List V × List V) → KR
  | some (g, a, cp) => .x (.call g (a ++ vs ++ cp) (f :: vs))
  | none => .x .none
def kCallV (s : LS) (f : Operand) (args : List Operand) : KR := match evK s f with
  | some fv => match evsK s args with
    | some vs => kCall2 fv vs (calleeV fv)
    | none => .x .none
  | none => .x .none
def kCall (P : Program) (s : LS) (new : Nat) (c : Call) : KR := match c.callee with
  | .value f => kCallV s f c.args.toList
  | _ => .x (xoCall P s new c)
def kBox2 (new : Nat) (t : TypeId) (v : V) : Option (List V) → KR
  | some cs => .x (.one true ⟨[v], [], [], [new], [(new, .cells cs t)], .p new 0⟩)
  | none => .x .none
def kBox (s : LS) (new : Nat) (t : TypeId) (x : Operand) : KR := match evK s x with
  | some v => kBox2 new t v (cellsV v)
  | none => .x .none
def kExt1 (i : Nat) : V → KR
  | .tup cs => match cs[i]? with
    | some v => .v true [.tup cs] v
    | none => .x .none
  | .d (.tup ds) => match ds[i]? with
    | some d => .v true [.d (.tup ds)] (.d d)
    | none => .x .none
  | _ => .x .none
def kExt (s : LS) (x : Operand) (i : Nat) : KR := match evK s x with
  | some v => kExt1 i v
  | none => .x .none
def kBinO (P : Program) (s : LS) (new : Nat) (o : Oper) (op : BinOp) (t : TypeId) (x y : Operand) : KR := match y with
  | .const .nilIface => .x (xoRun P s new o)
  | y => kBin P s t op x y
def kRun (P : Program) (s : LS) (new : Nat) (o : Oper) : KR := match o.op with
  | .move x => kMove s x
  | .assign x => kMove s x
  | .pick c x y => kPick s c x y
  | .load t x => kLoad P s t x
  | .store t x y => kStore P s o.dst t x y
  | .binOp op t x y _ => kBinO P s new o op t x y
  | .fieldAddr t x f => kFA P s t x f
  | .indexAddr t x y => kIA P s t x y
  | .call c => kCall P s new c
  | .box t x => kBox s new t x
  | .extract x i => kExt s x i
  | _ => .x (xoRun P s new o)
theorem kInt_eq (P : Program) (t : TypeId) (op : BinOp) (q : IntKind) (m : Int) (r : IntKind) (n : Int) : (kInt P t op q m r n).xr = xoBin P op t (.d (.k q m)) (.d (.k r n)) := by
  cases op <;> simp only [kInt, kAr, kCmp] <;> first | rfl | skip
  all_goals
    by_cases h : q = r
    · simp only [decide_eq_true h]
      subst h
      simp [KR.xr, xoBin, arithC, cmpC]
    · simp only [decide_eq_false h]
      simp [KR.xr, xoBin, h]
theorem kBin_eq (P : Program) (s : LS) (t : TypeId) (op : BinOp) (x y : Operand) : (kBin P s t op x y).xr = (match s.ev x, s.ev y with
    | some vx, some vy => xoBin P op t vx vy
    | _, _ => .none) := by
  unfold kBin
  rw [evK_eq, evK_eq]
  cases s.ev x with
  | none => rfl
  | some vx =>
    cases s.ev y with
    | none => rfl
    | some vy =>
      show (kBin1 P t op vy vx).xr = xoBin P op t vx vy
      unfold kBin1
      split
      · unfold kBin2
        split
        · exact kInt_eq ..
        · rfl
      · rfl
theorem kRun_eq (P : Program) (s : LS) (new : Nat) (o : Oper) : (kRun P s new o).xr = xoRun P s new o := by
  obtain ⟨dst, op, type, pos, after, guard⟩ := o
  cases op with
  | move x =>
    simp only [kRun, kMove, evK_eq, xoRun]
    cases s.ev x <;> rfl
  | assign x =>
    simp only [kRun, kMove, evK_eq, xoRun]
    cases s.ev x <;> rfl
  | pick c x y =>
    simp only [kRun, kPick, evK_eq, xoRun]
    cases s.ev c with
    | none => rfl
    | some c =>
      cases s.ev x with
      | none => cases c <;> first | rfl | (rename_i d; cases d <;> rfl)
      | some x =>
        cases s.ev y with
        | none => cases c <;> first | rfl | (rename_i d; cases d <;> rfl)
        | some y => cases c <;> first | rfl | (rename_i d; cases d <;> rfl)
  | load t x =>
    simp only [kRun, kLoad, evK_eq, xoRun]
    cases s.ev x with
    | none => rfl
    | some v =>
      simp only
      unfold kLoad1
      split
      · rename_i h off
        simp only [kLoad2, blkK_eq, xoLoad]
        cases s.blk h with
        | none => rfl
        | some b =>
          cases b <;> try rfl
          simp only [kLoad3]
          cases shp P t with
          | none => rfl
          | some z => cases z <;> rfl
      · rfl
  | store t x y =>
    simp only [kRun, kStore, evK_eq, xoRun]
    cases dst with
    | some d => rfl
    | none =>
      simp only
      cases s.ev x with
      | none => rfl
      | some vx =>
        cases s.ev y with
        | none => rfl
        | some vy =>
          simp only
          unfold kStore1 xoStore
          cases vx <;> try rfl
          rename_i h off
          simp only [kStore2, blkK_eq]
          cases s.blk h with
          | none => rfl
          | some b =>
            cases b <;> try rfl
            simp only
            cases cellsV vy with
            | none => rfl
            | some xs =>
              simp only [kStore3]
              cases tsz P t <;> rfl
  | binOp op t x y yt =>
    simp only [kRun, kBinO]
    split
    · rfl
    · rename_i hne
      rw [kBin_eq]
      have : xoRun P s new ⟨dst, .binOp op t x y yt, type, pos, after, guard⟩ = (match s.ev x, s.ev y with
          | some vx, some vy => xoBin P op t vx vy
          | _, _ => .none) := by
        cases y with
        | const c =>
          cases c <;> first | exact (hne rfl).elim | (cases op <;> rfl)
        | _ => cases op <;> rfl
      rw [this]
  | fieldAddr t x f =>
    simp only [kRun, kFA, evK_eq, xoRun]
    cases s.ev x with
    | none => rfl
    | some v =>
      simp only
      unfold kFA1
      cases v <;> first | rfl | (simp only [kFA2, kFA3]; cases fo P t f <;> rfl)
  | indexAddr t x y =>
    simp only [kRun, kIA, evK_eq, xoRun]
    cases s.ev x <;> cases s.ev y <;> rfl
  | call c =>
    simp only [kRun, kCall, xoRun, xoCall]
    obtain ⟨callee, args, tys⟩ := c
    cases callee with
    | value f =>
      simp only [kCallV, evK_eq, evsK_eq]
      cases s.ev f with
      | none => rfl
      | some fv =>
        cases s.evs args.toList with
        | none => rfl
        | some vs =>
          simp only [kCall2]
          cases calleeV fv <;> rfl
    | _ => rfl
  | box t x =>
    simp only [kRun, kBox, evK_eq, xoRun]
    cases s.ev x with
    | none => rfl
    | some v =>
      simp only [kBox2]
      cases cellsV v <;> rfl
  | extract x i =>
    simp only [kRun, kExt, evK_eq, xoRun]
    cases s.ev x with
    | none => rfl
    | some v =>
      simp only
      unfold kExt1
      cases v with
      | tup cs => simp only; cases cs[i]? <;> rfl
      | d x =>
        cases x with
        | tup ds => simp only; cases ds[i]? <;> rfl
        | _ => rfl
      | _ => rfl
  | _ => rfl

/-! ### the machine -/
section
variable (P : Program) (W : FuncId → Bool) (E : FuncId → List D → Option D) (T : FuncId → List D → Option LO) (fn : Nat → Option Func)
def kOne (rec : Ex) (nt : Nat) (all : Array Oper) (i : Nat) (o : Oper) (l : List Oper) (tr : List (Nat × List Nat × List Nat)) (draw : Bool) (k : List It) (s : LS) (c : Bool) (e : Eff) : Option (Fx × LS) := match dlt o.dst nt && (!s.taken.contains (s.fresh + i) && c) with
  | true => rec nt (.ops all (i + 1) l ((i, rdh (some e), wrh (some e)) :: tr) draw :: k) (s.app o.dst e)
  | false => none
def kPut (rec : Ex) (nt : Nat) (all : Array Oper) (i : Nat) (o : Oper) (l : List Oper) (tr : List (Nat × List Nat × List Nat)) (draw : Bool) (k : List It) (s : LS) (c : Bool) (v : V) : Option (Fx × LS) := match dlt o.dst nt && (!s.taken.contains (s.fresh + i) && c) with
  | true => rec nt (.ops all (i + 1) l ((i, [], []) :: tr) draw :: k) ⟨putE o.dst v s.env, s.heap, s.fresh, s.taken, s.dfs⟩
  | false => none
def kRet (rec : Ex) (nt : Nat) (all : Array Oper) (i : Nat) (o : Oper) (l : List Oper) (tr : List (Nat × List Nat × List Nat)) (draw : Bool) (k : List It) (s : LS) (r : D) : Option (Fx × LS) := match dlt o.dst nt with
  | true => rec nt (.ops all (i + 1) l ((i, [], []) :: tr) draw :: k) ⟨putE o.dst (.d r) s.env, s.heap, s.fresh, s.taken, s.dfs⟩
  | false => none
def kPan (draw : Bool) (s : LS) (d : D) : Option (Fx × LS) := match draw with
  | false => some (.pan d, s)
  | true => none
def kRes (rec : Ex) (nt : Nat) (all : Array Oper) (i : Nat) (o : Oper) (l : List Oper) (tr : List (Nat × List Nat × List Nat)) (draw : Bool) (k : List It) (s : LS) : Option LO → Option (Fx × LS)
  | some (.ret r) => kRet rec nt all i o l tr draw k s r
  | some (.pan d) => kPan draw s d
  | none => none
def kExtn (rec : Ex) (nt : Nat) (all : Array Oper) (i : Nat) (o : Oper) (l : List Oper) (tr : List (Nat × List Nat × List Nat)) (draw : Bool) (k : List It) (s : LS) (g : FuncId) (ds : List D) : Option D → Option (Fx × LS)
  | some r => kRet rec nt all i o l tr draw k s r
  | none => kRes rec nt all i o l tr draw k s (callX P T fn rec g ds)
def kCal (rec : Ex) (nt : Nat) (all : Array Oper) (i : Nat) (o : Oper) (l : List Oper) (tr : List (Nat × List Nat × List Nat)) (draw : Bool) (k : List It) (s : LS) (g : FuncId) (args vals : List V) : Option (List D) → Option (Fx × LS)
  | some ds => kExtn P T fn rec nt all i o l tr draw k s g ds (E g ds)
  | none => hX P fn rec nt all i o l tr draw k s g args vals
def kX (rec : Ex) (nt : Nat) (all : Array Oper) (i : Nat) (o : Oper) (l : List Oper) (tr : List (Nat × List Nat × List Nat)) (draw : Bool) (k : List It) (s : LS) : XR → Option (Fx × LS)
  | .one c e => kOne rec nt all i o l tr draw k s c e
  | .call g args vals => kCal P E T fn rec nt all i o l tr draw k s g args vals (if W g then none else V.toD.toDs args)
  | r => opX P W E T fn rec nt all i o l tr draw k s r
def kGo (rec : Ex) (nt : Nat) (all : Array Oper) (i : Nat) (o : Oper) (l : List Oper) (tr : List (Nat × List Nat × List Nat)) (draw : Bool) (k : List It) (s : LS) : KR → Option (Fx × LS)
  | .v c _ v => kPut rec nt all i o l tr draw k s c v
  | .x r => kX P W E T fn rec nt all i o l tr draw k s r
def kOp (rec : Ex) (nt : Nat) (all : Array Oper) (i : Nat) (o : Oper) (l : List Oper) (tr : List (Nat × List Nat × List Nat)) (draw : Bool) (k : List It) (s : LS) : Option (Fx × LS) := kGo P W E T fn rec nt all i o l tr draw k s (kRun P s (s.fresh + i) o)
def kGd (rec : Ex) (nt : Nat) (all : Array Oper) (i : Nat) (o : Oper) (l : List Oper) (tr : List (Nat × List Nat × List Nat)) (draw : Bool) (k : List It) (s : LS) : Option (Nat × Bool) → Option (Fx × LS)
  | none => kOp P W E T fn rec nt all i o l tr draw k s
  | some _ => stp P W E T fn rec nt (.ops all i (o :: l) tr draw :: k) s
def kEnd (rec : Ex) (nt : Nat) (all : Array Oper) (tr : List (Nat × List Nat × List Nat)) (draw : Bool) (k : List It) (s : LS) : Option (Fx × LS) := match draw with
  | false => rec nt k s.settle
  | true => match edgesB all && chkP all tr with
    | true => rec nt k s.settle
    | false => none
def kOps (rec : Ex) (nt : Nat) (all : Array Oper) (i : Nat) (tr : List (Nat × List Nat × List Nat)) (draw : Bool) (k : List It) (s : LS) : List Oper → Option (Fx × LS)
  | [] => kEnd rec nt all tr draw k s
  | o :: l => kGd P W E T fn rec nt all i o l tr draw k s o.guard
def kCond (rec : Ex) (nt : Nat) (k : List It) (s : LS) (t : Nat) (a b : Code) : Option V → Option (Fx × LS)
  | some (.d (.b true)) => rec nt (.code a :: k) (s.setB t true)
  | some (.d (.b false)) => rec nt (.code b :: k) (s.setB t false)
  | _ => none
def kCode (rec : Ex) (nt : Nat) (k : List It) (s : LS) : Code → Option (Fx × LS)
  | .skip => rec nt k s
  | .seq a b => rec nt (.code a :: .code b :: k) s
  | .ret => some (.ret, s)
  | .cond (.tmp t) a b => kCond rec nt k s t a b (lkK s.env t)
  | .region _ ops draw => rec nt (.ops ops 0 ops.toList [] draw :: k) s
  | c => stp P W E T fn rec nt (.code c :: k) s
def stpK (rec : Ex) (nt : Nat) : List It → LS → Option (Fx × LS)
  | [], s => some (.ret, s)
  | .blk _ :: k, s => rec nt k s
  | .back _ :: _, _ => none
  | .ops all i l tr draw :: k, s => kOps P W E T fn rec nt all i tr draw k s l
  | .op1 all i o l tr draw :: k, s => kOp P W E T fn rec nt all i o l tr draw k s
  | .code c :: k, s => kCode P W E T fn rec nt k s c
def exK (n : Nat) : Ex := Nat.rec (motive := fun _ => Ex) (fun _ _ _ => none) (fun _ rec => stpK P W E T fn rec) n
end
section
variable {P : Program} {W : FuncId → Bool} {E : FuncId → List D → Option D} {T : FuncId → List D → Option LO} {fn : Nat → Option Func}
theorem kX_eq (rec : Ex) (nt : Nat) (all : Array Oper) (i : Nat) (o : Oper) (l : List Oper) (tr : List (Nat × List Nat × List Nat)) (draw : Bool) (k : List It) (s : LS) (r : XR) : kX P W E T fn rec nt all i o l tr draw k s r = opX P W E T fn rec nt all i o l tr draw k s r := by
  cases r with
  | one c e => rfl
  | call g args vals =>
    simp only [kX, opX]
    cases (if W g = true then none else V.toD.toDs args) with
    | none => rfl
    | some ds =>
      simp only [kCal]
      cases E g ds with
      | some r => rfl
      | none =>
        simp only [kExtn]
        cases callX P T fn rec g ds with
        | none => rfl
        | some z => cases z <;> rfl
  | _ => rfl
theorem kOp_eq (rec : Ex) (nt : Nat) (all : Array Oper) (i : Nat) (o : Oper) (l : List Oper) (tr : List (Nat × List Nat × List Nat)) (draw : Bool) (k : List It) (s : LS) : kOp P W E T fn rec nt all i o l tr draw k s = stp P W E T fn rec nt (.op1 all i o l tr draw :: k) s := by
  have h := kRun_eq P s (s.fresh + i) o
  show _ = opX P W E T fn rec nt all i o l tr draw k s (xoRun P s (s.fresh + i) o)
  rw [← h]
  unfold kOp
  cases kRun P s (s.fresh + i) o with
  | v c vals z => rfl
  | x r => exact kX_eq ..
theorem stpK_ok (hmx : P.follows .mixedOrders = true) (hfn : ∀ g f, fn g = some f → P.funcs[g]? = some f ∧ Enters P g) (hE : ∀ g ds d, E g ds = some d → Direct P g ds d) (hT : ∀ g ds o, T g ds = some o → LSpec P g ds o) {rec : Ex} (hr : ExOk P rec) : ExOk P (stpK P W E T fn rec) := by
  have hs : ExOk P (stp P W E T fn rec) := stp_ok hmx hfn hE hT hr
  intro nt k s fx s' hk h n0 F hF
  have same : stpK P W E T fn rec nt k s = stp P W E T fn rec nt k s → gx ⟨P, nt, n0, xo P, F⟩ k s := fun e => hs nt k s fx s' hk (e ▸ h) n0 F hF
  cases k with
  | nil => exact same rfl
  | cons x k =>
    cases x with
    | blk id => exact same rfl
    | back B => exact same rfl
    | op1 all i o l tr draw => exact same (kOp_eq ..)
    | ops all i l tr draw =>
      cases l with
      | nil => exact same rfl
      | cons o l =>
        cases hg : o.guard with
        | some z => exact same (by show kGd P W E T fn rec nt all i o l tr draw k s o.guard = _; rw [hg]; rfl)
        | none =>
          have e : stpK P W E T fn rec nt (.ops all i (o :: l) tr draw :: k) s = stp P W E T fn rec nt (.op1 all i o l tr draw :: k) s := by
            show kGd P W E T fn rec nt all i o l tr draw k s o.guard = _
            rw [hg]
            exact kOp_eq ..
          have := hs nt (.op1 all i o l tr draw :: k) s fx s' hk (e ▸ h) n0 F hF
          rw [gx_ops]
          have hgo : guardOf all s o = .yes := by simp only [guardOf, hg]
          rw [hgo]
          exact this
    | code c =>
      cases c with
      | cond y a b =>
        cases y with
        | tmp t =>
          refine same ?_
          show kCond rec nt k s t a b (lkK s.env t) = _
          rw [lkK_eq]
          simp only [stp]
          cases lk s.env t with
          | none => rfl
          | some v =>
            cases v with
            | d d =>
              cases d with
              | b p => cases p <;> rfl
              | _ => rfl
            | _ => rfl
        | _ => exact same rfl
      | _ => exact same rfl
theorem exK_ok (hmx : P.follows .mixedOrders = true) (hfn : ∀ g f, fn g = some f → P.funcs[g]? = some f ∧ Enters P g) (hE : ∀ g ds d, E g ds = some d → Direct P g ds d) (hT : ∀ g ds o, T g ds = some o → LSpec P g ds o) : ∀ n, ExOk P (exK P W E T fn n)
  | 0 => fun _ _ _ _ _ _ h => by cases h
  | n + 1 => stpK_ok hmx hfn hE hT (exK_ok hmx hfn hE hT n)
/-- a closed run -/
theorem LSpec.runK (hmx : P.follows .mixedOrders = true) (hfn : ∀ g f, fn g = some f → P.funcs[g]? = some f ∧ Enters P g) (hE : ∀ g ds d, E g ds = some d → Direct P g ds d) (hT : ∀ g ds o, T g ds = some o → LSpec P g ds o) (n : Nat) {g : FuncId} {ds : List D} {o : LO}
    (h : callX P T fn (exK P W E T fn n) g ds = some o) : LSpec P g ds o := callX_ok hmx hfn hT (exK_ok hmx hfn hE hT n) h
end
end Go.Lm
/- The logical machine: the program's functions as a table. -/
namespace Go.Lm
open Go Go.RowKit
theorem enters_of {P : Program} {g : FuncId} {f : Func} (h : P.funcs[g]? = some f) (hb : f.body.isSome = true) (hn : (f.name == "runtime.NumGoroutine") = false) : Enters P g := by
  intro args w
  have hp : (program : Sem Program).run P w = .ok P w := rfl
  unfold callFunc
  rw [Sem.run_bind, hp, Result.andThen_ok, h]
  simp only [hn, Bool.false_eq_true, if_false]
  have : f.body.isNone = false := by cases hq : f.body with | none => rw [hq] at hb; cases hb | some c => rfl
  simp only [this, Bool.false_eq_true, if_false]
  rfl
def TabOk (P : Program) (l : List (Nat × Func)) : Prop := ∀ x ∈ l, P.funcs[x.1]? = some x.2 ∧ x.2.body.isSome = true ∧ (x.2.name == "runtime.NumGoroutine") = false
theorem TabOk.nil (P : Program) : TabOk P [] := fun x hx => by cases hx
theorem TabOk.cons {P : Program} {g : Nat} {f : Func} {l : List (Nat × Func)} (h : P.funcs[g]? = some f) (hb : f.body.isSome = true) (hn : (f.name == "runtime.NumGoroutine") = false) (k : TabOk P l) : TabOk P ((g, f) :: l) := fun x hx => by
  rcases List.mem_cons.1 hx with rfl | hx
  · exact ⟨h, hb, hn⟩
  · exact k x hx
theorem TabOk.fn {P : Program} {l : List (Nat × Func)} (h : TabOk P l) : ∀ g f, lk l g = some f → P.funcs[g]? = some f ∧ Enters P g := fun g f e => by
  obtain ⟨h1, h2, h3⟩ := h _ (lk_mem e)
  exact ⟨h1, enters_of h1 h2 h3⟩
end Go.Lm
/- The logical machine: two functions without a body. -/
namespace Go.Lm
open Go Go.RowKit
def idxB : List UInt8 → UInt8 → Nat → Int
  | [], _, _ => -1
  | b :: l, c, i => match b == c with
    | true => (i : Int)
    | false => idxB l c (i + 1)
theorem idxB_eq (l : List UInt8) (c : UInt8) : ∀ i : Nat, idxB l c i = if Lib.indexByte l c = -1 then -1 else Lib.indexByte l c + i := by
  induction l with
  | nil => intro i; rfl
  | cons b l ih =>
    intro i
    unfold idxB Lib.indexByte
    cases h : b == c with
    | true => simp
    | false =>
      simp only [Bool.false_eq_true, if_false]
      rw [ih (i + 1)]
      have hge := Lib.indexByte_ge l c
      by_cases h1 : Lib.indexByte l c = -1
      · simp [h1]
      · have h2 : ¬ (Lib.indexByte l c + 1 = -1) := by omega
        simp only [h1, if_false, beq_iff_eq, h2]
        omega
theorem idxB_zero (l : List UInt8) (c : UInt8) : idxB l c 0 = Lib.indexByte l c := by
  rw [idxB_eq]
  split
  · rename_i h; exact h.symm
  · omega
theorem direct_of {P : Program} {g : FuncId} {f : Func} {e : Array Value → Sem Value} {ds : List D} {r : D} (hf : P.funcs[g]? = some f) (hname : (f.name == "runtime.NumGoroutine") = false) (hb : f.body.isNone = true) (hn : Extern.findNext f = none) (he : Extern.find f = some e)
    (h : ∀ (fz : Fz) (w : World) (us : Array Value), RepDs fz ds us → ∃ u, (e us).run P w = .ok u w ∧ RepD fz r u) : Direct P g ds r := fun fz w us hr => by
  obtain ⟨u, h1, h2⟩ := h fz w us hr
  refine ⟨u, ?_, h2⟩
  rw [run_callFunc_extern hf hname hb hn he, h1]
  rfl
theorem reps_sb {fz : Fz} {l : List UInt8} {c : Int} {us : Array Value} (h : RepDs fz [.s l, .k .u8 c] us) : us = #[.string ⟨l.toArray⟩, .int .u8 c] := by
  obtain ⟨us⟩ := us
  obtain ⟨hl, hr⟩ := h
  match us, hl with
  | [x, y], _ =>
    have h1 := hr 0 _ x rfl rfl
    have h2 := hr 1 _ y rfl rfl
    cases h1
    cases h2
    rfl
theorem direct_count {P : Program} {g : FuncId} {f : Func} (hf : P.funcs[g]? = some f) (hname : (f.name == "runtime.NumGoroutine") = false) (hb : f.body.isNone = true) (hn : Extern.findNext f = none) (he : Extern.find f = some Extern.BytealgCount.count) (l : List UInt8) (c : Int) :
    Direct P g [.s l, .k .u8 c] (.k .i64 ((l.count c.toNat.toUInt8 : Nat) : Int)) := direct_of hf hname hb hn he fun fz w us hr => by
  rw [reps_sb hr]
  exact ⟨_, Lib.run_countString ⟨l.toArray⟩ c w, .k _ _⟩
theorem direct_index {P : Program} {g : FuncId} {f : Func} (hf : P.funcs[g]? = some f) (hname : (f.name == "runtime.NumGoroutine") = false) (hb : f.body.isNone = true) (hn : Extern.findNext f = none) (he : Extern.find f = some Extern.BytealgIndexByte.indexByte) (l : List UInt8) (c : Int) :
    Direct P g [.s l, .k .u8 c] (.k .i64 (idxB l c.toNat.toUInt8 0)) := direct_of hf hname hb hn he fun fz w us hr => by
  rw [reps_sb hr]
  refine ⟨_, Lib.run_indexByteString ⟨l.toArray⟩ c w, ?_⟩
  rw [idxB_zero]
  exact .k _ _
end Go.Lm

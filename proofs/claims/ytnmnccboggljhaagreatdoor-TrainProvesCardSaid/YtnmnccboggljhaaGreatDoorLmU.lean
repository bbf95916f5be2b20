/- The logical machine: closed runs, by computation. -/
import Derived.Test.YtnmnccboggljhaaGreatDoorLmTa
set_option linter.constructorNameAsVariable false
namespace Go.Lm
open Go Go.RowKit

/-! ### the machine -/
section
variable (P : Program) (W : FuncId → Bool) (E : FuncId → List D → Option D) (T : FuncId → List D → Option LO) (fn : Nat → Option Func)
abbrev Ex := Nat → List It → LS → Option (Fx × LS)
/-- the first handle from which on all are free, at a call in a region of so many operations -/
def LS.top (s : LS) (n : Nat) : Nat := s.taken.foldl (fun m h => if m ≤ h then h + 1 else m) (s.fresh + n)
/-- the one call that was put off -/
def finD (rec : Ex) (m : Option D) (g : FuncId) (args : List V) (s : LS) (rs : List ResultVar) : Option LO := match V.lt.lts (s.top 0) (V.frz.go args) && (s.blocks (hsV.go args 0)).all (fun x => Nat.blt x.1 (s.top 0) && x.2.lt (s.top 0)) with
  | true => match fn g with
    | some f => match f.body with
      | some (.seq (.region _ ⟨[⟨some t, .call ⟨.builtin .recover, ⟨[]⟩, _⟩, _, _, _, none⟩]⟩ false) rest) => match Nat.ble args.length f.ntmps && Nat.blt t f.ntmps with
        | true => match rec f.ntmps [.code rest] ⟨(t, recV m) :: envV 0 (V.frz.go args), (s.blocks (hsV.go args 0)).map (fun x => (x.1, some x.2)), s.top 0, [], []⟩ with
          | some (.ret, s') => match s'.dfs, resL P s' f.results.toList with
            | [], some vs => match (s'.blocks (hsV.go vs ((s.blocks (hsV.go args 0)).foldl (fun m x => m ||| 1 <<< x.1) 0))).all (fun x => (Nat.ble (s.top 0) x.1 && Nat.blt x.1 s'.settle.fresh) || (s.blocks (hsV.go args 0)).any (fun z => Nat.beq z.1 x.1)) with
              | true => match resL P (s.app none ⟨[], [], s.blocks (hsV.go args 0), List.range' (s.top 0) (s'.settle.fresh - s.top 0), s'.blocks (hsV.go vs ((s.blocks (hsV.go args 0)).foldl (fun m x => m ||| 1 <<< x.1) 0)), pack vs⟩) rs with
                | some ws => ((pack ws).toDh (s.app none ⟨[], [], s.blocks (hsV.go args 0), List.range' (s.top 0) (s'.settle.fresh - s.top 0), s'.blocks (hsV.go vs ((s.blocks (hsV.go args 0)).foldl (fun m x => m ||| 1 <<< x.1) 0)), pack vs⟩)).map .ret
                | none => none
              | false => none
            | _, _ => none
          | _ => none
        | false => none
      | _ => none
    | none => none
  | false => none
def callX (rec : Ex) (g : FuncId) (ds : List D) : Option LO := match T g ds with
  | some o => some o
  | none => match fn g with
    | some f => match f.body with
      | some c => match Nat.ble ds.length f.ntmps with
        | true => match rec f.ntmps [.code c] ⟨envD 0 ds, [], 0, [], []⟩ with
          | some (.ret, s') => match s'.dfs, resL P s' f.results.toList with
            | [], some vs => ((pack vs).toDh s').map .ret
            | [(.func g', cap, as)], _ => finD P fn rec none g' (as ++ cap) s' f.results.toList
            | _, _ => none
          | some (.pan d, s') => match s'.dfs with
            | [] => some (.pan d)
            | [(.func g', cap, as)] => finD P fn rec (some d) g' (as ++ cap) s' f.results.toList
            | _ => none
          | none => none
        | false => none
      | none => none
    | none => none
def callH (rec : Ex) (g : FuncId) (args : List V) (N : Nat) (H : List (Nat × Blk)) : Option (V × List (Nat × Blk) × Nat) := match V.lt.lts N (V.frz.go args) && H.all (fun x => Nat.blt x.1 N && x.2.lt N) with
  | true => match fn g with
    | some f => match f.body with
      | some c => match Nat.ble args.length f.ntmps with
        | true => match rec f.ntmps [.code c] ⟨envV 0 (V.frz.go args), H.map (fun x => (x.1, some x.2)), N, [], []⟩ with
          | some (.ret, s') => match s'.dfs, resL P s' f.results.toList with
            | [], some vs => some (pack vs, s'.blocks (hsV.go vs (H.foldl (fun m x => m ||| 1 <<< x.1) 0)), s'.settle.fresh)
            | _, _ => none
          | _ => none
        | false => none
      | none => none
    | none => none
  | false => none
def hX (rec : Ex) (nt : Nat) (all : Array Oper) (i : Nat) (o : Oper) (l : List Oper) (tr : List (Nat × List Nat × List Nat)) (draw : Bool) (k : List It) (s : LS) (g : FuncId) (args vals : List V) : Option (Fx × LS) := match callH P fn rec g args (s.top all.size) (s.blocks (hsV.go args 0)) with
      | some (r, H', N') => match dlt o.dst nt && H'.all (fun x => (Nat.ble (s.top all.size) x.1 && Nat.blt x.1 N') || (s.blocks (hsV.go args 0)).any (fun z => Nat.beq z.1 x.1)) with
        | true => rec nt (.ops all (i + 1) l ((i, rdh (some ⟨vals, [], s.blocks (hsV.go args 0), List.range' (s.top all.size) (N' - s.top all.size), H', r⟩), wrh (some ⟨vals, [], s.blocks (hsV.go args 0), List.range' (s.top all.size) (N' - s.top all.size), H', r⟩)) :: tr) draw :: k) (s.app o.dst ⟨vals, [], s.blocks (hsV.go args 0), List.range' (s.top all.size) (N' - s.top all.size), H', r⟩)
        | false => none
      | none => none
def opX (rec : Ex) (nt : Nat) (all : Array Oper) (i : Nat) (o : Oper) (l : List Oper) (tr : List (Nat × List Nat × List Nat)) (draw : Bool) (k : List It) (s : LS) : XR → Option (Fx × LS)
  | .one c e => match dlt o.dst nt && (!s.taken.contains (s.fresh + i) && c) with
    | true => rec nt (.ops all (i + 1) l ((i, rdh (some e), wrh (some e)) :: tr) draw :: k) (s.app o.dst e)
    | false => none
  | .call g args vals => match if W g then none else V.toD.toDs args with
    | some ds => match E g ds with
      | some r => match dlt o.dst nt with
        | true => rec nt (.ops all (i + 1) l ((i, [], []) :: tr) draw :: k) ⟨putE o.dst (.d r) s.env, s.heap, s.fresh, s.taken, s.dfs⟩
        | false => none
      | none => match callX P T fn rec g ds with
      | some (.ret r) => match dlt o.dst nt with
        | true => rec nt (.ops all (i + 1) l ((i, [], []) :: tr) draw :: k) ⟨putE o.dst (.d r) s.env, s.heap, s.fresh, s.taken, s.dfs⟩
        | false => none
      | some (.pan d) => match draw with
        | false => some (.pan d, s)
        | true => none
      | none => none
    | none => hX P fn rec nt all i o l tr draw k s g args vals
  | .pan d => match draw with
    | false => some (.pan d, s)
    | true => none
  | .dfr x => match draw, dlt o.dst nt with
    | false, true => rec nt (.ops all (i + 1) l ((i, [], []) :: tr) draw :: k) { s with env := putE o.dst uV s.env, dfs := x :: s.dfs }
    | _, _ => none
  | .none => none
def stp (rec : Ex) (nt : Nat) : List It → LS → Option (Fx × LS)
  | [], s => some (.ret, s)
  | .blk _ :: k, s => rec nt k s
  | .back _ :: _, _ => none
  | .ops all _ [] tr draw :: k, s => match draw with
    | false => rec nt k s.settle
    | true => match edgesB all && chkP all tr with
      | true => rec nt k s.settle
      | false => none
  | .ops all i (o :: l) tr draw :: k, s => match guardOf all s o with
    | .yes => rec nt (.op1 all i o l tr draw :: k) s
    | .ask t p want => match p == want with
      | true => rec nt (.op1 all i o l tr draw :: k) (s.setB t want)
      | false => match dlt o.dst nt with
        | true => rec nt (.ops all (i + 1) l ((i, [], []) :: tr) draw :: k) ((s.setB t (!want)).skip o.dst)
        | false => none
    | .no => match dlt o.dst nt with
      | true => rec nt (.ops all (i + 1) l ((i, [], []) :: tr) draw :: k) (s.skip o.dst)
      | false => none
    | .bad => none
  | .op1 all i o l tr draw :: k, s => opX P W E T fn rec nt all i o l tr draw k s (xoRun P s (s.fresh + i) o)
  | .code c :: k, s => match c with
    | .skip => rec nt k s
    | .label _ => rec nt k s
    | .seq a b => rec nt (.code a :: .code b :: k) s
    | .block id c => rec nt (.code c :: .blk id :: k) s
    | .scope c => rec nt (.code c :: k) s
    | .exit id => match popTo id k with
      | some k' => rec nt k' s
      | none => none
    | .ret => some (.ret, s)
    | .cond (.tmp t) a b => match lk s.env t with
      | some (.d (.b true)) => rec nt (.code a :: k) (s.setB t true)
      | some (.d (.b false)) => rec nt (.code b :: k) (s.setB t false)
      | _ => none
    | .cond (.const (.bool true)) a b => rec nt (.code a :: k) s
    | .cond (.const (.bool false)) a b => rec nt (.code b :: k) s
    | .region _ ops draw => rec nt (.ops ops 0 ops.toList [] draw :: k) s
    | .loop c => rec nt (.code c :: .code (.loop c) :: k) s.clean
    | _ => none
def ex (n : Nat) : Ex := Nat.rec (motive := fun _ => Ex) (fun _ _ _ => none) (fun _ rec => stp P W E T fn rec) n
theorem ex_succ (n : Nat) : ex P W E T fn (n + 1) = stp P W E T fn (ex P W E T fn n) := rfl
end
def tailPlain (k : List It) : Prop := ∀ y ∈ k.tail, y.plain
theorem popTo_plain {id : Nat} : ∀ {k k' : List It}, popTo id k = some k' → (∀ y ∈ k, y.plain) → ∀ y ∈ k', y.plain
  | [], _, h, _ => by cases h
  | x :: k, k', h, hk => by
    have hk' : ∀ y ∈ k, y.plain := fun y hy => hk y (List.mem_cons_of_mem _ hy)
    cases x with
    | blk j =>
      simp only [popTo] at h
      split at h
      · cases h; exact hk'
      · exact popTo_plain h hk'
    | code c => exact popTo_plain (k := k) h hk'
    | ops _ _ _ _ _ => exact popTo_plain (k := k) h hk'
    | op1 _ _ _ _ _ _ => exact popTo_plain (k := k) h hk'
    | back B => exact popTo_plain (k := k) h hk'
theorem plain_tail {k : List It} (h : ∀ y ∈ k, y.plain) : tailPlain k := fun y hy => h y (List.mem_of_mem_tail hy)
theorem plain_cons {x : It} {k : List It} (h : ∀ y ∈ k, y.plain) : tailPlain (x :: k) := h

section
variable {P : Program} {W : FuncId → Bool} {E : FuncId → List D → Option D} {T : FuncId → List D → Option LO} {fn : Nat → Option Func}
def ExOk (P : Program) (ex : Ex) : Prop := ∀ (nt : Nat) (k : List It) (s : LS) (fx : Fx) (s' : LS), tailPlain k → ex nt k s = some (fx, s') → ∀ (n0 : Nat) (F : Fx → LS → Prop), F fx s' → gx ⟨P, nt, n0, xo P, F⟩ k s
theorem top_free {s : LS} {n h : Nat} (hh : s.top n ≤ h) : s.free h := by
  have := settle_ge s.taken (s.fresh + n)
  refine ⟨by unfold LS.top at hh; omega, fun hm => ?_⟩
  have := this.2 h hm
  unfold LS.top at hh
  omega
theorem settle_free {s : LS} {h : Nat} (hh : s.settle.fresh ≤ h) : s.free h := by
  have := settle_ge s.taken s.fresh
  simp only [LS.settle] at hh
  exact ⟨by omega, fun hm => by have := this.2 h hm; omega⟩
theorem frz_length : ∀ args : List V, (V.frz.go args).length = args.length
  | [] => rfl
  | _ :: vs => congrArg (· + 1) (frz_length vs)
theorem finD_ok (hmx : P.follows .mixedOrders = true) (hfn : ∀ g f, fn g = some f → P.funcs[g]? = some f ∧ Enters P g) {rec : Ex} (hr : ExOk P rec) {m : Option D} {g : FuncId} {cap as : List V} {s : LS} {rs : List ResultVar} {o : LO} {fx : Fx} (hd : s.dfs = [(.func g, cap, as)]) (hm : m = match fx with | .ret => none | .pan d => some d)
    (h : finD P fn rec m g (as ++ cap) s rs = some o) : RetX P rs o fx s := by
  unfold finD at h
  split at h
  · rename_i hl
    simp only [Bool.and_eq_true, List.all_eq_true] at hl
    split at h
    · rename_i f hf
      obtain ⟨h1, h2⟩ := hfn _ _ hf
      split at h
      · rename_i id t tys ty pos aft rest hb
        split at h
        · rename_i hn
          simp only [Bool.and_eq_true] at hn
          split at h
          · rename_i s' he
            split at h
            · rename_i vs hd' hv
              split at h
              · rename_i hk
                simp only [List.all_eq_true, Bool.or_eq_true, Bool.and_eq_true, List.any_eq_true] at hk
                split at h
                · rename_i ws hw
                  simp only [Option.map_eq_some_iff] at h
                  obtain ⟨d, h, rfl⟩ := h
                  refine .inr ⟨d, g, cap, as, _, _, _, _, rfl, hd, h2, NG.toH dfrC_mono (NG.of_gxD hmx h1 hb ?_ (by rw [Nat.blt_eq] at hn; exact hn.2) fun F hF => ?_) hl.1 (fun x hx => ?_), fun x hx => LS.blocks_ok hx, fun x hx => ?_, fun x hx => ?_, ws, hw, h⟩
                  · rw [frz_length]; exact Nat.le_of_ble_eq_true hn.1
                  · subst hm
                    exact hr _ _ _ _ _ (fun y hy => by cases hy) he _ F (hF _ _ ⟨hd', vs, hv, rfl, fun x hx => LS.blocks_ok hx, fun x hx => settle_free hx⟩)
                  · have := hl.2 x hx
                    rw [Nat.blt_eq] at this
                    exact this
                  · rw [List.mem_range'_1] at hx
                    exact top_free hx.1
                  · rcases hk x hx with ⟨q1, q2⟩ | ⟨z, hz, q⟩
                    · refine .inl ?_
                      rw [Nat.blt_eq] at q2
                      have := Nat.le_of_ble_eq_true q1
                      rw [List.mem_range'_1]
                      omega
                    · exact .inr ⟨z, hz, Nat.eq_of_beq_eq_true q⟩
                · cases h
              · cases h
            · cases h
          · cases h
        · cases h
      · cases h
    · cases h
  · cases h
theorem callX_ok (hmx : P.follows .mixedOrders = true) (hfn : ∀ g f, fn g = some f → P.funcs[g]? = some f ∧ Enters P g) (hT : ∀ g ds o, T g ds = some o → LSpec P g ds o) {rec : Ex} (hr : ExOk P rec) {g : FuncId} {ds : List D} {o : LO} (h : callX P T fn rec g ds = some o) : LSpec P g ds o := by
  unfold callX at h
  split at h
  · rename_i o' ht
    cases h
    exact hT _ _ _ ht
  · split at h
    · rename_i f hf
      obtain ⟨h1, h2⟩ := hfn _ _ hf
      split at h
      · rename_i c hc
        split at h
        · rename_i hl
          refine ⟨h2, SpecP.of_gxD hmx h1 hc (Nat.le_of_ble_eq_true hl) fun F hF => ?_⟩
          split at h
          · rename_i s' he
            split at h
            · rename_i vs hd hv
              simp only [Option.map_eq_some_iff] at h
              obtain ⟨d, h, rfl⟩ := h
              exact hr _ _ _ _ _ (fun y hy => by cases hy) he 0 F (hF _ _ (.inl ⟨hd, vs, hv, h⟩))
            · rename_i hd
              exact hr _ _ _ _ _ (fun y hy => by cases hy) he 0 F (hF _ _ (finD_ok hmx hfn hr hd rfl h))
            · cases h
          · rename_i d s' he
            split at h
            · rename_i hd
              cases h
              exact hr _ _ _ _ _ (fun y hy => by cases hy) he 0 F (hF _ _ (.inl ⟨hd, rfl⟩))
            · rename_i hd
              exact hr _ _ _ _ _ (fun y hy => by cases hy) he 0 F (hF _ _ (finD_ok hmx hfn hr hd rfl h))
            · cases h
          · cases h
        · cases h
      · cases h
    · cases h
theorem callH_ok (hmx : P.follows .mixedOrders = true) (hfn : ∀ g f, fn g = some f → P.funcs[g]? = some f ∧ Enters P g) {rec : Ex} (hr : ExOk P rec) {g : FuncId} {args : List V} {N N' : Nat} {H H' : List (Nat × Blk)} {r : V} (h : callH P fn rec g args N H = some (r, H', N')) :
    Enters P g ∧ SpecH P g args [] H (List.range' N (N' - N)) H' r := by
  unfold callH at h
  split at h
  · rename_i hl
    simp only [Bool.and_eq_true, List.all_eq_true] at hl
    split at h
    · rename_i f hf
      obtain ⟨h1, h2⟩ := hfn _ _ hf
      split at h
      · rename_i c hc
        split at h
        · rename_i hn
          split at h
          · rename_i s' he
            split at h
            · rename_i vs hd hv
              simp only [Option.some.injEq, Prod.mk.injEq] at h
              obtain ⟨rfl, rfl, rfl⟩ := h
              refine ⟨h2, SpecN.toH (SpecN.of_gx hmx h1 hc ?_ fun F hF => ?_) hl.1 fun x hx => ?_⟩
              · rw [frz_length]
                exact Nat.le_of_ble_eq_true hn
              · exact hr _ _ _ _ _ (fun y hy => by cases hy) he N F (hF _ _ ⟨hd, vs, hv, rfl, fun x hx => LS.blocks_ok hx, fun x hx => settle_free hx⟩)
              · have := hl.2 x hx
                rw [Nat.blt_eq] at this
                exact this
            · cases h
          · cases h
        · cases h
      · cases h
    · cases h
  · cases h
theorem hX_ok (hmx : P.follows .mixedOrders = true) (hfn : ∀ g f, fn g = some f → P.funcs[g]? = some f ∧ Enters P g) {rec : Ex} (hr : ExOk P rec) {nt : Nat} {all : Array Oper} {i : Nat} {o : Oper} {l : List Oper} {tr : List (Nat × List Nat × List Nat)} {draw : Bool} {k : List It} {s s' : LS} {fx : Fx} {g : FuncId} {args vals : List V} {n0 : Nat} {F : Fx → LS → Prop}
    (hk : ∀ y ∈ k, y.plain) (hF : F fx s') (h : hX P fn rec nt all i o l tr draw k s g args vals = some (fx, s')) (d : Option (List D)) : XC ⟨P, nt, n0, xo P, F⟩ g args d vals all i o l tr draw k s := by
  unfold hX at h
  split at h
  · rename_i r H' N' hc
    obtain ⟨h1, h2⟩ := callH_ok hmx hfn hr hc
    split at h
    · rename_i hd
      simp only [Bool.and_eq_true, List.all_eq_true, Bool.or_eq_true, List.any_eq_true] at hd
      refine XC.gen [] _ _ _ _ h1 h2 (fun x hx => by cases hx) (fun x hx => LS.blocks_ok hx) (fun x hx => ?_) (fun x hx => ?_) hd.1 (hr nt _ _ fx s' (plain_cons hk) h n0 F hF)
      · rw [List.mem_range'_1] at hx
        exact top_free hx.1
      · rcases hd.2 x hx with ⟨q1, q2⟩ | ⟨z, hz, q⟩
        · refine .inl ?_
          rw [Nat.blt_eq] at q2
          have := Nat.le_of_ble_eq_true q1
          rw [List.mem_range'_1]
          omega
        · exact .inr ⟨z, hz, Nat.eq_of_beq_eq_true q⟩
    · cases h
  · cases h
theorem stp_ok (hmx : P.follows .mixedOrders = true) (hfn : ∀ g f, fn g = some f → P.funcs[g]? = some f ∧ Enters P g) (hE : ∀ g ds d, E g ds = some d → Direct P g ds d) (hT : ∀ g ds o, T g ds = some o → LSpec P g ds o) {rec : Ex} (hr : ExOk P rec) : ExOk P (stp P W E T fn rec) := by
  intro nt k s fx s' hk h n0 F hF
  have go : ∀ k' s'', tailPlain k' → rec nt k' s'' = some (fx, s') → gx ⟨P, nt, n0, xo P, F⟩ k' s'' := fun k' s'' h1 h2 => hr nt k' s'' fx s' h1 h2 n0 F hF
  cases k with
  | nil =>
    simp only [stp, Option.some.injEq, Prod.mk.injEq] at h
    obtain ⟨rfl, rfl⟩ := h
    rw [gx_nil]; exact hF
  | cons x k =>
    have hk : ∀ y ∈ k, y.plain := hk
    cases x with
    | blk id => rw [gx_blk]; exact go _ _ (plain_tail hk) h
    | back B => cases h
    | ops all i l tr draw =>
      cases l with
      | nil =>
        rw [gx_end]
        cases draw with
        | false => exact go _ _ (plain_tail hk) h
        | true =>
          simp only [stp] at h
          split at h
          · rename_i hc
            exact ⟨hc, go _ _ (plain_tail hk) h⟩
          · cases h
      | cons o l =>
        rw [gx_ops]
        simp only [stp] at h
        split at h
        · rename_i hg
          rw [hg]
          exact go _ _ (plain_cons hk) h
        · rename_i t p want hg
          rw [hg]
          split at h
          · rename_i hp
            have hp : p = want := by simpa using hp
            refine ⟨fun _ => go _ _ (plain_cons hk) h, fun e => ?_⟩
            rw [hp] at e
            cases want <;> cases e
          · rename_i hp
            have hp : ¬ p = want := by simpa using hp
            split at h
            · rename_i hd
              exact ⟨fun e => absurd e hp, fun _ => ⟨hd, go _ _ (plain_cons hk) h⟩⟩
            · cases h
        · rename_i hg
          rw [hg]
          split at h
          · rename_i hd
            exact ⟨hd, go _ _ (plain_cons hk) h⟩
          · cases h
        · cases h
    | op1 all i o l tr draw =>
      rw [gx_op1]
      simp only [stp] at h
      generalize hx : xoRun P s (s.fresh + i) o = r at h
      have hx' : (xo P).run s (s.fresh + i) o = r := hx
      rw [show (Cf.mk P nt n0 (xo P) F).xo.run s (s.fresh + i) o = r from hx]
      cases r with
      | none => cases h
      | pan d =>
        simp only [opX] at h
        split at h
        · cases h; exact ⟨rfl, hF⟩
        · cases h
      | dfr x =>
        simp only [opX] at h
        split at h
        · rename_i hd
          exact ⟨rfl, hd, go _ _ (plain_cons hk) h⟩
        · cases h
      | one c e =>
        simp only [opX] at h
        split at h
        · rename_i hc
          simp only [Bool.and_eq_true, Bool.not_eq_true', List.contains_eq_mem, decide_eq_false_iff_not] at hc
          exact ⟨⟨hc.1, hc.2.1, hc.2.2⟩, go _ _ (plain_cons hk) h⟩
        · cases h
      | call g args vals =>
        simp only [opX] at h
        split at h
        · rename_i ds hds
          have hds : V.toD.toDs args = some ds := by
            split at hds
            · cases hds
            · exact hds
          show XC _ _ _ _ _ _ _ _ _ _ _ _ _
          rw [hds]
          split at h
          · rename_i r hc
            split at h
            · rename_i hd
              exact XC.ext (hE _ _ _ hc) hd (go _ _ (plain_cons hk) h)
            · cases h
          split at h
          · rename_i r hc
            split at h
            · rename_i hd
              exact XC.p (callX_ok hmx hfn hT hr hc) hd (go _ _ (plain_cons hk) h)
            · cases h
          · rename_i d hc
            split at h
            · cases h
              exact XC.pan (callX_ok hmx hfn hT hr hc) hF
            · cases h
          · cases h
        · exact hX_ok hmx hfn hr hk hF h _
    | code c =>
      simp only [stp] at h
      cases c with
      | skip => rw [gx_skip]; exact go _ _ (plain_tail hk) h
      | label l => rw [gx_label]; exact go _ _ (plain_tail hk) h
      | seq a b => rw [gx_seq]; exact go _ _ (plain_cons fun y hy => by rcases List.mem_cons.1 hy with rfl | hy; trivial; exact hk y hy) h
      | block id c => rw [gx_block]; exact go _ _ (plain_cons fun y hy => by rcases List.mem_cons.1 hy with rfl | hy; trivial; exact hk y hy) h
      | scope c => rw [gx_scope]; exact go _ _ (plain_cons hk) h
      | exit id =>
        rw [gx_exit]
        simp only at h
        split at h
        · rename_i k' hp
          rw [hp]
          exact go _ _ (plain_tail (popTo_plain hp hk)) h
        · cases h
      | ret =>
        simp only [Option.some.injEq, Prod.mk.injEq] at h
        obtain ⟨rfl, rfl⟩ := h
        rw [gx_ret]; exact hF
      | cond x a b =>
        cases x with
        | tmp t =>
          simp only at h
          split at h
          · rename_i hl
            rw [gx_cond, hl]
            exact ⟨fun _ => go _ _ (plain_cons hk) h, fun e => by cases e⟩
          · rename_i hl
            rw [gx_cond, hl]
            exact ⟨fun e => by (cases e), fun _ => go _ _ (plain_cons hk) h⟩
          · cases h
        | const v =>
          cases v with
          | bool p =>
            rw [gx]
            cases p
            · exact ⟨fun e => by (cases e), fun _ => go _ _ (plain_cons hk) h⟩
            · exact ⟨fun _ => go _ _ (plain_cons hk) h, fun e => by (cases e)⟩
          | _ => simp only at h; cases h
        | _ => simp only at h; cases h
      | region id ops draw => rw [gx_region]; exact go _ _ (plain_cons hk) h
      | loop c =>
        rw [gx_loop]
        exact loop_unroll hmx s.clean_wk hk (go _ _ (plain_cons fun y hy => by rcases List.mem_cons.1 hy with rfl | hy; trivial; exact hk y hy) h)
      | _ => simp only at h; cases h
theorem ex_ok (hmx : P.follows .mixedOrders = true) (hfn : ∀ g f, fn g = some f → P.funcs[g]? = some f ∧ Enters P g) (hE : ∀ g ds d, E g ds = some d → Direct P g ds d) (hT : ∀ g ds o, T g ds = some o → LSpec P g ds o) : ∀ n, ExOk P (ex P W E T fn n)
  | 0 => fun _ _ _ _ _ _ h => by cases h
  | n + 1 => stp_ok hmx hfn hE hT (ex_ok hmx hfn hE hT n)
/-- a closed run -/
theorem LSpec.run (hmx : P.follows .mixedOrders = true) (hfn : ∀ g f, fn g = some f → P.funcs[g]? = some f ∧ Enters P g) (hE : ∀ g ds d, E g ds = some d → Direct P g ds d) (hT : ∀ g ds o, T g ds = some o → LSpec P g ds o) (n : Nat) {g : FuncId} {ds : List D} {o : LO}
    (h : callX P T fn (ex P W E T fn n) g ds = some o) : LSpec P g ds o := callX_ok hmx hfn hT (ex_ok hmx hfn hE hT n) h
end
end Go.Lm

/- prepared: all products, and the marks. -/
import Derived.Test.YtkgkhggcahmiiaaGreatDoorPreq
namespace Go.Proofs.Tryz
open Go Go.RowKit Go.Lm
set_option maxRecDepth 100000
def isSnt : List (Fn × List V × List V) → Bool
  | [(.method s, [], [])] => s == ""
  | _ => false
theorem isSnt_ok {l : List (Fn × List V × List V)} (h : isSnt l = true) : l = [snt] := by
  unfold isSnt at h
  split at h
  · rename_i s
    have : s = "" := by simpa using h
    subst this
    rfl
  · cases h
def retM (P : Program) (rvs : List ResultVar) (d : D) (fx : Fx) (s : LS) : Prop := match fx, isSnt s.dfs with
  | .ret, true => match resL P s rvs with
    | some vs => match (pack vs).toDh s with
      | some d' => d' = d
      | none => False
    | none => False
  | _, _ => False
theorem retM_ok {P : Program} {rvs : List ResultVar} {d : D} {fx : Fx} {s : LS} (h : retM P rvs d fx s) : RetM P rvs d fx s := by
  unfold retM at h
  split at h
  · rename_i hd
    split at h
    · rename_i vs hv
      split at h
      · rename_i d' ht
        exact ⟨isSnt_ok hd, vs, hv, by rw [ht, h]⟩
      · exact h.elim
    · exact h.elim
  · exact h.elim
def prodHf : Hf := fun g args _ N => match Nat.beq g 118, args with
  | true, [.agg ds, .d (.k q n)] => some ([], [N, N + 1], [(N, .cells ds 103), (N + 1, .cells [.d (.k q n)] 3)], .fn (.func 147) [] [.p N 0, .p (N + 1) 0])
  | _, _ => none
noncomputable def m3 : Nat := uL f65 noB 3 (rsOf f65 ||| 1 <<< 200)
noncomputable def m11 (Bs : Nat → LS → Prop) : Nat := uL f65 Bs 11 m3
def stO (a b p d : Int) (nv tr : List (List D)) (n : Nat) (ni : Int) (sr mr : List (List D)) : LS := ⟨[(16, .d (.k .i64 ni)), (15, .d (.k .i64 (p + 1))), (1, .p 0 0), (2, .p 1 0), (3, .p 2 0)], [(0, some (.cells (six a b p d nv tr) 103)), (1, some (.cells zer 107)), (2, some (.cells (six a b p d nv tr ++ [.own 3 1 sr, .own 4 1 mr]) 107)), (3, some (.tail n 1 37)), (4, some (.tail n 1 157))], 5, [], [snt]⟩
def stI (a b p d : Int) (nv tr : List (List D)) (n : Nat) (ni : Int) (sr mr mk : List (List D)) (i : Int) (lr : List (List D)) (ln : Nat) : LS := ⟨[(34, .d (.k .i64 i)), (33, .d (.k .i64 mk.length)), (32, .d (.sl 1 mk)), (7, .own 20 1 lr), (5, .p 11 0), (16, .d (.k .i64 ni)), (15, .d (.k .i64 (p + 1))), (1, .p 0 0), (2, .p 1 0), (3, .p 2 0)], [(20, some (.tail ln 1 3)), (11, some (.cells [.d (.sl 1 mk)] 157)), (0, some (.cells (six a b p d nv tr) 103)), (1, some (.cells zer 107)), (2, some (.cells (six a b p d nv tr ++ [.own 3 1 sr, .own 4 1 mr]) 107)), (3, some (.tail n 1 37)), (4, some (.tail n 1 157))], 21, [], [snt]⟩
/-- the numbers that are marked -/
def sortedL (mk : List Bool) : List Int := ((List.range mk.length).filter fun (i : Nat) => mk[i]?.getD false).map fun (i : Nat) => (i : Int)
def sortedTo (mk : List Bool) (m : Nat) : List Int := ((List.range m).filter fun (i : Nat) => mk[i]?.getD false).map fun (i : Nat) => (i : Int)
def marksN (teeth : List Int) (n : Nat) : List Bool := marksB (60 ^ n + 1) (ps teeth n 0 1)
def sortedR (teeth : List Int) (m : Nat) : List (List D) := (List.range m).map fun n => [.sl 1 (ints (sortedL (marksN teeth n)))]
def markedR (teeth : List Int) (m : Nat) : List (List D) := (List.range m).map fun n => [.sl 1 (bools (marksN teeth n))]
theorem sortedTo_succ (mk : List Bool) (m : Nat) : sortedTo mk (m + 1) = sortedTo mk m ++ if mk[m]?.getD false = true then [(m : Int)] else [] := by
  simp only [sortedTo, List.range_succ, List.filter_append, List.map_append]
  congr 1
  by_cases h : mk[m]?.getD false = true
  · simp [h]
  · simp [h]
theorem sortedR_succ (teeth : List Int) (m : Nat) : sortedR teeth (m + 1) = sortedR teeth m ++ [[.sl 1 (ints (sortedL (marksN teeth m)))]] := by simp [sortedR, List.range_succ]
theorem markedR_succ (teeth : List Int) (m : Nat) : markedR teeth (m + 1) = markedR teeth m ++ [[.sl 1 (bools (marksN teeth m))]] := by simp [markedR, List.range_succ]
theorem Wr.of2 {n0 : Nat} {R : List (Nat × Option Nat)} {s s' : LS} (hR : RB n0 s'.fresh R = true) (hf : Nat.ble n0 s'.fresh = true) (hd : s.dfs = [] ∨ s.dfs = [snt]) (hd' : s'.dfs = [snt]) (he : WrE n0 R s s'.env) (hh : WrH n0 R s s'.heap) : Wr n0 R s s' :=
  ⟨WrE_ok he, WrH_ok hh, (RB_ok hR).1, (RB_ok hR).2, Nat.le_of_ble_eq_true hf, hd, .inr hd'⟩
theorem loop_m {f : Func} {d : D} {F : Fx → LS → Prop} (hF : ∀ fx s, RetM prog f.results.toList d fx s → F fx s) (U : List Nat) (pn : FuncId → Bool) (hf : Hf) (rs n : Nat) {Bs : Nat → LS → Prop} {id : Nat} {s : LS} {α : Type} (I : α → LS) (pre : α → Prop) (μ : α → Nat) (x0 : α) (R0 : List (Nat × Option Nat))
    (h0 : pre x0) (hw : Wr 0 R0 s (I x0))
    (round : ∀ x, pre x → ∀ B : LS → Prop, (∀ x' R s', pre x' → μ x' < μ x → Wr 0 R s' (I x') → B s') →
      Go.Lm.vx prog f.ntmps 0 F (retM prog f.results.toList d) (lk tab) U pn hf (uL f Bs id rs) n (.code (lpAt f Bs id).1 :: .back (fun s => B (s.keep (uL f Bs id rs))) :: (lpAt f Bs id).2) (I x)) : LeafAt prog f F Bs id s :=
  Leaf.loopV mx (uL f Bs id rs) I pre μ x0 R0 (lpAt_plain f Bs id) h0 hw fun x hx B hB => vx_ok mx (fun fx s hg => hF fx s (retM_ok hg)) n _ _ (fun y hy => by
    rcases List.mem_cons.1 hy with rfl | hy
    · trivial
    · exact lpAt_plain f Bs id y hy) (round x hx B hB)

theorem brn_tt {A B : Prop} (h : A) : brn true A B := h
theorem brn_ff {A B : Prop} (h : B) : brn false A B := h
theorem fits_small {x : Int} (h0 : 0 ≤ x) (h1 : x ≤ 1000000) : fits .i64 x := ⟨by omega, by omega⟩
theorem products_h (a b p d : Int) (nv tr : List (List D)) (n : Int) : Lm.Enters prog 118 ∧ SpecH prog 118 [V.agg [V.d (D.k IntKind.i64 a), V.d (D.k IntKind.i64 b), V.d (D.k IntKind.i64 p), V.d (D.k IntKind.i64 d), V.d (D.sl 1 nv), V.d (D.sl 1 tr)], V.d (D.k IntKind.i64 n)] [] [] [15, 16]
      [(15, Blk.cells (six a b p d nv tr) 103), (16, Blk.cells [V.d (D.k IntKind.i64 n)] 3)] (V.fn (Fn.func 147) [] [V.p 15 0, V.p 16 0]) := by
  have hfu : lk tab 118 = some f118 := by kernel_rfl
  refine ⟨(tabOk.fn _ _ hfu).2, SpecN.toH (N := 15) (H := []) (N' := 17) (SpecN.of_gx mx (tabOk.fn _ _ hfu).1 (show f118.body = some (bodyOf f118) by kernel_rfl) (Nat.le_of_ble_eq_true (by kernel_rfl)) fun F hF => ?_) rfl (fun x hx => by cases hx)⟩
  refine vx_ok (fn := lk tab) (U := []) (pn := noP) (hf := noHf) (rs := rsOf f118) (G := RetV prog f118.results.toList (V.fn (Fn.func 147) [] [V.p 15 0, V.p 16 0]) [(15, Blk.cells (six a b p d nv tr) 103), (16, Blk.cells [V.d (D.k IntKind.i64 n)] 3)] 17) mx hF 1000 _ _ (fun y hy => by cases hy) ?_
  refine Eq.mpr (β := RetV prog f118.results.toList (V.fn (Fn.func 147) [] [V.p 15 0, V.p 16 0]) [(15, Blk.cells (six a b p d nv tr) 103), (16, Blk.cells [V.d (D.k IntKind.i64 n)] 3)] 17 Fx.ret
    { env := [(4, V.fn (Fn.func 147) [] [V.p 15 0, V.p 16 0]), (5, V.fn (Fn.func 147) [] [V.p 15 0, V.p 16 0]), (4, V.d (D.raw Value.nilFunc)), (3, V.p 16 0), (2, V.p 15 0), (0, V.agg (six a b p d nv tr)), (1, V.d (D.k IntKind.i64 n))],
      heap := [(16, some (Blk.cells [V.d (D.k IntKind.i64 n)] 3)), (15, some (Blk.cells (six a b p d nv tr) 103))], fresh := 17, taken := [], dfs := [] }) (by kernel_rfl) ?_
  have hrs : f118.results.toList = [.tmp 4] := by kernel_rfl
  rw [hrs]
  refine ⟨rfl, [V.fn (Fn.func 147) [] [V.p 15 0, V.p 16 0]], rfl, rfl, fun x hx => ?_, fun h hh => ⟨hh, fun e => by cases e⟩⟩
  simp only [List.mem_cons, List.mem_nil_iff, or_false] at hx
  rcases hx with rfl | rfl <;> rfl
set_option maxHeartbeats 2000000 in
theorem prepared_spec (a b p d : Int) (nv : List (List D)) (teeth : List Int) (hp0 : 0 ≤ p) (hp : p ≤ 3) (hl : teeth.length ≤ 1000) (ht : ∀ j : Nat, 0 ≤ teeth[j]?.getD 0 ∧ teeth[j]?.getD 0 ≤ 60)
    (hrep : ∀ n : Nat, n ≤ 3 → ∃ r, LSpec prog 117 [.sl 1 [[.k .i64 60]], .k .i64 n] (.ret (.sl 1 r)) ∧ LSpec prog 116 [.sl 1 r] (.ret (.k .i64 ((60 ^ n : Nat) : Int)))) :
    LSpec prog 65 [.agg [.k .i64 a, .k .i64 b, .k .i64 p, .k .i64 d, .sl 1 nv, .sl 1 (ints teeth)]] (.ret (.agg [.k .i64 a, .k .i64 b, .k .i64 p, .k .i64 d, .sl 1 nv, .sl 1 (ints teeth), .sl 1 (sortedR teeth (p + 1).toNat), .sl 1 (markedR teeth (p + 1).toNat)])) := by
  have hfu : lk tab 65 = some f65 := by kernel_rfl
  refine ⟨(tabOk.fn _ _ hfu).2, SpecP.of_gxM mx (tabOk.fn _ _ hfu).1 (show f65.body = some (bodyOf f65) by kernel_rfl) (Nat.le_of_ble_eq_true (by kernel_rfl)) fun F hF => ?_⟩
  refine vx_ok (fn := lk tab) (U := []) (pn := noP) (hf := prodHf) (rs := rsOf f65 ||| 1 <<< 200) (G := retM prog f65.results.toList _) mx (fun fx s hg => hF fx s (retM_ok hg)) 1000 _ _ (fun y hy => by cases hy) ?_
  obtain ⟨tr, htr⟩ : ∃ tr, tr = ints teeth := ⟨_, rfl⟩
  rw [← htr]
  refine Eq.mpr (β := brn (decide (fits IntKind.i64 (p + 1)))
  (LeafAt prog f65 F noB 3
    { env := [(16, V.d (D.k IntKind.i64 0)), (15, V.d (D.k IntKind.i64 (p + 1))), (3, V.p 4 0), (2, V.p 1 0), (1, V.p 0 0)],
      heap :=
        [(4, some (Blk.cells [V.d (D.k IntKind.i64 a), V.d (D.k IntKind.i64 b), V.d (D.k IntKind.i64 p), V.d (D.k IntKind.i64 d), V.d (D.sl 1 nv), V.d (D.sl 1 tr), V.d D.nil, V.d D.nil] 107)),
          (1, some (Blk.cells [V.d (D.k IntKind.i64 0), V.d (D.k IntKind.i64 0), V.d (D.k IntKind.i64 0), V.d (D.k IntKind.i64 0), V.d D.nil, V.d D.nil, V.d D.nil, V.d D.nil] 107)),
          (0, some (Blk.cells [V.d (D.k IntKind.i64 a), V.d (D.k IntKind.i64 b), V.d (D.k IntKind.i64 p), V.d (D.k IntKind.i64 d), V.d (D.sl 1 nv), V.d (D.sl 1 tr)] 103))],
      fresh := 5, taken := [], dfs := [] })
  False) (by kernel_rfl) ?_
  refine brn_must (decide_eq_true ⟨by omega, by omega⟩) ?_
  refine loop_m hF [] noP prodHf (rsOf f65 ||| 1 <<< 200) 1000 (fun x : Nat × Int => stO a b p d nv tr x.1 x.2 (sortedR teeth x.1) (markedR teeth x.1)) (fun x => x.2 = x.1 ∧ x.2 ≤ p + 1) (fun x => (p + 1).toNat - x.1) (0, 0) [(0, some 0), (1, some 1), (2, some 4), (3, none), (4, none)] ⟨rfl, by simp only; omega⟩
    (Wr.of2 rfl rfl (.inl rfl) rfl ⟨rfl, rfl, ⟨_, rfl, rfl⟩, ⟨_, rfl, rfl⟩, ⟨_, rfl, rfl⟩, trivial⟩ ⟨⟨rfl, rfl, rfl, rfl, rfl, rfl, rfl, trivial⟩, ⟨rfl, rfl, rfl, rfl, rfl, rfl, rfl, rfl, rfl, trivial⟩, ⟨rfl, rfl, rfl, rfl, rfl, rfl, rfl, ⟨rfl, rfl⟩, ⟨rfl, rfl⟩, trivial⟩, ⟨_, _, rfl⟩, ⟨_, _, rfl⟩, trivial⟩) ?_
  rintro ⟨n, ni⟩ ⟨hni, hn⟩ B hB
  simp only at hni hn
  obtain ⟨sr, hsr⟩ : ∃ sr, sr = sortedR teeth n := ⟨_, rfl⟩
  obtain ⟨mr, hmr⟩ : ∃ mr, mr = markedR teeth n := ⟨_, rfl⟩
  rw [← hsr, ← hmr]
  refine Eq.mpr (β := brn (decide (ni < p + 1))
  (∃ r,
    LSpec prog 117 [D.sl 1 [[D.k IntKind.i64 60]], D.k IntKind.i64 ni] (LO.ret (D.sl 1 r)) ∧
      ∃ r_1,
        LSpec prog 116 [D.sl 1 r] (LO.ret (D.k IntKind.i64 r_1)) ∧
          brn (decide (fits IntKind.i64 (r_1 + 1)))
            (brn (decide (r_1 + 1 = r_1 + 1 ∧ 1 = 1 ∧ 0 ≤ r_1 + 1 ∧ r_1 + 1 ≤ 1000000))
              ((Lm.Enters prog 118 ∧
                  SpecH prog 118 [V.agg [V.d (D.k IntKind.i64 a), V.d (D.k IntKind.i64 b), V.d (D.k IntKind.i64 p), V.d (D.k IntKind.i64 d), V.d (D.sl 1 nv), V.d (D.sl 1 tr)], V.d (D.k IntKind.i64 ni)] [] [] [15, 16]
                    [(15, Blk.cells [V.d (D.k IntKind.i64 a), V.d (D.k IntKind.i64 b), V.d (D.k IntKind.i64 p), V.d (D.k IntKind.i64 d), V.d (D.sl 1 nv), V.d (D.sl 1 tr)] 103), (16, Blk.cells [V.d (D.k IntKind.i64 ni)] 3)]
                    (V.fn (Fn.func 147) [] [V.p 15 0, V.p 16 0])) ∧
                brn
                  ([(15, Blk.cells [V.d (D.k IntKind.i64 a), V.d (D.k IntKind.i64 b), V.d (D.k IntKind.i64 p), V.d (D.k IntKind.i64 d), V.d (D.sl 1 nv), V.d (D.sl 1 tr)] 103), (16, Blk.cells [V.d (D.k IntKind.i64 ni)] 3)].all
                    fun x => [15, 16].contains x.fst || false)
                  (RangeAt prog f65 F (fun _ s => B (s.keep m3)) 7
                    { env := [(27, V.fn (Fn.func 147) [] [V.p 15 0, V.p 16 0]), (5, V.p 11 0), (16, V.d (D.k IntKind.i64 ni)), (15, V.d (D.k IntKind.i64 (p + 1))), (1, V.p 0 0), (2, V.p 1 0), (3, V.p 2 0)],
                      heap :=
                        [(15, some (Blk.cells [V.d (D.k IntKind.i64 a), V.d (D.k IntKind.i64 b), V.d (D.k IntKind.i64 p), V.d (D.k IntKind.i64 d), V.d (D.sl 1 nv), V.d (D.sl 1 tr)] 103)),
                          (16, some (Blk.cells [V.d (D.k IntKind.i64 ni)] 3)), (11, some (Blk.cells [V.ms 10 0 (r_1 + 1).toNat] 157)), (10, some (Blk.cells (List.replicate (r_1 + 1).toNat (V.d (D.b false))) 4)),
                          (5, some (Blk.tail 1 1 3)), (0, some (Blk.cells [V.d (D.k IntKind.i64 a), V.d (D.k IntKind.i64 b), V.d (D.k IntKind.i64 p), V.d (D.k IntKind.i64 d), V.d (D.sl 1 nv), V.d (D.sl 1 tr)] 103)),
                          (1, some (Blk.cells [V.d (D.k IntKind.i64 0), V.d (D.k IntKind.i64 0), V.d (D.k IntKind.i64 0), V.d (D.k IntKind.i64 0), V.d D.nil, V.d D.nil, V.d D.nil, V.d D.nil] 107)),
                          (2, some (Blk.cells [V.d (D.k IntKind.i64 a), V.d (D.k IntKind.i64 b), V.d (D.k IntKind.i64 p), V.d (D.k IntKind.i64 d), V.d (D.sl 1 nv), V.d (D.sl 1 tr), V.own 3 1 sr, V.own 4 1 mr] 107)),
                          (3, some (Blk.tail n 1 37)), (4, some (Blk.tail n 1 157))],
                      fresh := 17, taken := [], dfs := [(Fn.method "", [], [])] })
                  False)
              False)
            False)
  (D.agg [D.k IntKind.i64 a, D.k IntKind.i64 b, D.k IntKind.i64 p, D.k IntKind.i64 d, D.sl 1 nv, D.sl 1 tr, D.sl 1 sr, D.sl 1 mr] = D.agg [D.k IntKind.i64 a, D.k IntKind.i64 b, D.k IntKind.i64 p, D.k IntKind.i64 d, D.sl 1 nv, D.sl 1 (ints teeth), D.sl 1 (sortedR teeth (p + 1).toNat), D.sl 1 (markedR teeth (p + 1).toNat)])) (by kernel_rfl) ?_
  refine brn_intro (fun h => ?_) (fun h => ?_)
  · have h := of_decide_eq_true h
    have hn3 : n ≤ 3 := by omega
    obtain ⟨r, hr1, hr2⟩ := hrep n hn3
    rw [← hni] at hr1
    have hM : 60 ^ n + 1 ≤ 1000000 := by
      have : n = 0 ∨ n = 1 ∨ n = 2 ∨ n = 3 := by omega
      rcases this with rfl | rfl | rfl | rfl <;> decide
    obtain ⟨K, hK⟩ : ∃ K : Nat, 60 ^ n = K := ⟨_, rfl⟩
    rw [hK] at hr2 hM
    obtain ⟨k, hk⟩ : ∃ k : Int, (K : Int) = k := ⟨_, rfl⟩
    rw [hk] at hr2
    have HK : Hid (60 ^ n = K) := hK
    clear hK
    refine ⟨r, hr1, _, hr2, ?_⟩
    have q0 : (0 : Int) ≤ k + 1 := by omega
    have q1 : k + 1 ≤ 1000000 := by omega
    have q2 : fits IntKind.i64 (k + 1) := fits_small q0 q1
    rw [decide_eq_true q2]
    refine brn_tt ?_
    rw [decide_eq_true (show (k + 1 = k + 1 ∧ 1 = 1 ∧ 0 ≤ k + 1 ∧ k + 1 ≤ 1000000) from ⟨rfl, rfl, q0, q1⟩)]
    refine brn_tt ?_
    refine ⟨products_h a b p d nv tr ni, ?_⟩
    refine brn_must rfl ?_
    have e : (k + 1).toNat = K + 1 := by omega
    rw [e]
    subst htr
    refine range_leaf (M := K + 1) hn3 hl ht (by rw [HK.out]) hni ?_
    refine vx_ok (fn := lk tab) (U := []) (pn := noP) (hf := prodHf) (rs := m3) (G := retM prog f65.results.toList _) mx (fun fx s hg => hF fx s (retM_ok hg)) 1000 _ _ (fun y hy => rgAt_plain _ _ _ y (List.mem_of_mem_tail hy)) ?_
    obtain ⟨mkB, hmk⟩ : ∃ mkB, mkB = marksB (K + 1) (ps teeth n 0 1) := ⟨_, rfl⟩
    have hmkl : mkB.length = K + 1 := by rw [hmk]; simp [marksB]
    have hbl : (bools mkB).length = mkB.length := by simp [bools]
    rw [← hmk]
    refine Eq.mpr (β := LeafAt prog f65 F (fun _ s => B (s.keep m3)) 11
  {
    env :=
      [(34, V.d (D.k IntKind.i64 0)), (33, V.d (D.k IntKind.i64 ↑(bools mkB).length)), (32, V.d (D.sl 1 (bools mkB))), (7, V.d D.nil), (5, V.p 11 0), (16, V.d (D.k IntKind.i64 ni)), (15, V.d (D.k IntKind.i64 (p + 1))), (1, V.p 0 0), (2, V.p 1 0),
        (3, V.p 2 0)],
    heap :=
      [(11, some (Blk.cells [V.d (D.sl 1 (bools mkB))] 157)), (0, some (Blk.cells [V.d (D.k IntKind.i64 a), V.d (D.k IntKind.i64 b), V.d (D.k IntKind.i64 p), V.d (D.k IntKind.i64 d), V.d (D.sl 1 nv), V.d (D.sl 1 (ints teeth))] 103)),
        (1, some (Blk.cells [V.d (D.k IntKind.i64 0), V.d (D.k IntKind.i64 0), V.d (D.k IntKind.i64 0), V.d (D.k IntKind.i64 0), V.d D.nil, V.d D.nil, V.d D.nil, V.d D.nil] 107)),
        (2, some (Blk.cells [V.d (D.k IntKind.i64 a), V.d (D.k IntKind.i64 b), V.d (D.k IntKind.i64 p), V.d (D.k IntKind.i64 d), V.d (D.sl 1 nv), V.d (D.sl 1 (ints teeth)), V.own 3 1 sr, V.own 4 1 mr] 107)), (3, some (Blk.tail n 1 37)),
        (4, some (Blk.tail n 1 157))],
    fresh := 17, taken := [], dfs := [(Fn.method "", [], [])] }) (by kernel_rfl) ?_
    refine loop_m hF [] noP prodHf m3 1000 (fun x : Nat × Int => stI a b p d nv (ints teeth) n ni sr mr (bools mkB) x.2 (ints (sortedTo mkB x.1)) (sortedTo mkB x.1).length) (fun x => x.2 = x.1 ∧ x.1 ≤ mkB.length) (fun x => mkB.length - x.1) (0, 0) [(20, none), (11, some 11), (0, some 0), (1, some 1), (2, some 2), (3, some 3), (4, some 4)] ⟨rfl, Nat.zero_le _⟩
      (Wr.of2 rfl rfl (.inr rfl) rfl ⟨rfl, rfl, rfl, ⟨rfl, rfl⟩, ⟨_, rfl, rfl⟩, rfl, rfl, ⟨_, rfl, rfl⟩, ⟨_, rfl, rfl⟩, ⟨_, rfl, rfl⟩, trivial⟩ ⟨⟨_, _, rfl⟩, ⟨rfl, rfl, trivial⟩, ⟨rfl, rfl, rfl, rfl, rfl, rfl, rfl, trivial⟩, ⟨rfl, rfl, rfl, rfl, rfl, rfl, rfl, rfl, rfl, trivial⟩, ⟨rfl, rfl, rfl, rfl, rfl, rfl, rfl, rfl, rfl, trivial⟩, rfl, rfl, trivial⟩) ?_
    rintro ⟨i, ii⟩ ⟨hii, hi⟩ B2 hB2
    simp only at hii hi
    have hlen : (sortedTo mkB i).length ≤ i := by
      have := List.length_filter_le (fun (i : Nat) => mkB[i]?.getD false) (List.range i)
      simpa [sortedTo] using this
    have hlen' : (ints (sortedTo mkB i)).length = (sortedTo mkB i).length := by simp [ints]
    refine Eq.mpr (β := brn (decide (ii < ↑(bools mkB).length))
  (brn (decide (0 ≤ ii ∧ ii < ↑(bools mkB).length))
    (∃ r,
      ((bools mkB)[ii.toNat]?.bind fun r => r[0]?) = some (D.b r) ∧
        brn r
          (brn (decide (1 ≤ 10000 ∧ [V.d (D.k IntKind.i64 ii)].all oneV = true))
            (brn (decide ((ints (sortedTo mkB i)).length + 1 ≤ 1000000))
              (brn (decide (fits IntKind.i64 (ii + 1)))
                (B2
                  {
                    env :=
                      [(34, V.d (D.k IntKind.i64 (ii + 1))), (7, V.own 24 1 (ints (sortedTo mkB i) ++ [[D.k IntKind.i64 ii]])), (33, V.d (D.k IntKind.i64 ↑(bools mkB).length)), (32, V.d (D.sl 1 (bools mkB))), (5, V.p 11 0), (16, V.d (D.k IntKind.i64 ni)),
                        (15, V.d (D.k IntKind.i64 (p + 1))), (1, V.p 0 0), (2, V.p 1 0), (3, V.p 2 0)],
                    heap :=
                      [(24, some (Blk.tail ((ints (sortedTo mkB i)).length + 1) 1 3)), (20, none), (23, some (Blk.tail 1 1 3)), (11, some (Blk.cells [V.d (D.sl 1 (bools mkB))] 157)),
                        (0, some (Blk.cells [V.d (D.k IntKind.i64 a), V.d (D.k IntKind.i64 b), V.d (D.k IntKind.i64 p), V.d (D.k IntKind.i64 d), V.d (D.sl 1 nv), V.d (D.sl 1 (ints teeth))] 103)),
                        (1, some (Blk.cells [V.d (D.k IntKind.i64 0), V.d (D.k IntKind.i64 0), V.d (D.k IntKind.i64 0), V.d (D.k IntKind.i64 0), V.d D.nil, V.d D.nil, V.d D.nil, V.d D.nil] 107)),
                        (2, some (Blk.cells [V.d (D.k IntKind.i64 a), V.d (D.k IntKind.i64 b), V.d (D.k IntKind.i64 p), V.d (D.k IntKind.i64 d), V.d (D.sl 1 nv), V.d (D.sl 1 (ints teeth)), V.own 3 1 sr, V.own 4 1 mr] 107)),
                        (3, some (Blk.tail n 1 37)), (4, some (Blk.tail n 1 157))],
                    fresh := 25, taken := [], dfs := [(Fn.method "", [], [])] })
                False)
              False)
            False)
          (brn (decide (fits IntKind.i64 (ii + 1)))
            (B2
              {
                env :=
                  [(34, V.d (D.k IntKind.i64 (ii + 1))), (33, V.d (D.k IntKind.i64 ↑(bools mkB).length)), (32, V.d (D.sl 1 (bools mkB))), (7, V.own 20 1 (ints (sortedTo mkB i))), (5, V.p 11 0), (16, V.d (D.k IntKind.i64 ni)), (15, V.d (D.k IntKind.i64 (p + 1))),
                    (1, V.p 0 0), (2, V.p 1 0), (3, V.p 2 0)],
                heap :=
                  [(20, some (Blk.tail (sortedTo mkB i).length 1 3)), (11, some (Blk.cells [V.d (D.sl 1 (bools mkB))] 157)),
                    (0, some (Blk.cells [V.d (D.k IntKind.i64 a), V.d (D.k IntKind.i64 b), V.d (D.k IntKind.i64 p), V.d (D.k IntKind.i64 d), V.d (D.sl 1 nv), V.d (D.sl 1 (ints teeth))] 103)),
                    (1, some (Blk.cells [V.d (D.k IntKind.i64 0), V.d (D.k IntKind.i64 0), V.d (D.k IntKind.i64 0), V.d (D.k IntKind.i64 0), V.d D.nil, V.d D.nil, V.d D.nil, V.d D.nil] 107)),
                    (2, some (Blk.cells [V.d (D.k IntKind.i64 a), V.d (D.k IntKind.i64 b), V.d (D.k IntKind.i64 p), V.d (D.k IntKind.i64 d), V.d (D.sl 1 nv), V.d (D.sl 1 (ints teeth)), V.own 3 1 sr, V.own 4 1 mr] 107)),
                    (3, some (Blk.tail n 1 37)), (4, some (Blk.tail n 1 157))],
                fresh := 21, taken := [], dfs := [(Fn.method "", [], [])] })
            False))
    False)
  (brn (decide (sr.length + 1 ≤ 1000000))
    (brn (decide (mr.length + 1 ≤ 1000000))
      (brn (decide (fits IntKind.i64 (ni + 1)))
        (B
          { env := [(16, V.d (D.k IntKind.i64 (ni + 1))), (15, V.d (D.k IntKind.i64 (p + 1))), (1, V.p 0 0), (2, V.p 1 0), (3, V.p 2 0)],
            heap :=
              [(2,
                  some
                    (Blk.cells
                      [V.d (D.k IntKind.i64 a), V.d (D.k IntKind.i64 b), V.d (D.k IntKind.i64 p), V.d (D.k IntKind.i64 d), V.d (D.sl 1 nv), V.d (D.sl 1 (ints teeth)), V.own 25 1 (sr ++ [[D.sl 1 (ints (sortedTo mkB i))]]), V.own 30 1 (mr ++ [[D.sl 1 (bools mkB)]])]
                      107)),
                (30, some (Blk.tail (mr.length + 1) 1 157)), (4, none), (29, some (Blk.tail 1 1 157)), (25, some (Blk.tail (sr.length + 1) 1 37)), (3, none), (24, some (Blk.tail 1 1 37)), (20, some (Blk.tail (sortedTo mkB i).length 1 3)),
                (11, some (Blk.cells [V.d (D.sl 1 (bools mkB))] 157)), (0, some (Blk.cells [V.d (D.k IntKind.i64 a), V.d (D.k IntKind.i64 b), V.d (D.k IntKind.i64 p), V.d (D.k IntKind.i64 d), V.d (D.sl 1 nv), V.d (D.sl 1 (ints teeth))] 103)),
                (1, some (Blk.cells [V.d (D.k IntKind.i64 0), V.d (D.k IntKind.i64 0), V.d (D.k IntKind.i64 0), V.d (D.k IntKind.i64 0), V.d D.nil, V.d D.nil, V.d D.nil, V.d D.nil] 107))],
            fresh := 31, taken := [], dfs := [(Fn.method "", [], [])] })
        False)
      False)
    False)) (by kernel_rfl) ?_
    refine brn_intro (fun h2 => ?_) (fun h2 => ?_)
    · have h2 := of_decide_eq_true h2
      rw [hbl] at h2
      have hi' : i < mkB.length := by omega
      refine brn_must (decide_eq_true ⟨by omega, by rw [hbl]; omega⟩) ?_
      refine ⟨mkB[i]?.getD false, by rw [show ii.toNat = i by omega]; simp [bools, hi'], ?_⟩
      have hs := sortedTo_succ mkB i
      refine brn_intro (fun h3 => ?_) (fun h3 => ?_)
      · refine brn_must (decide_eq_true ⟨by decide, rfl⟩) ?_
        rw [decide_eq_true (show (ints (sortedTo mkB i)).length + 1 ≤ 1000000 by omega)]
        refine brn_tt ?_
        rw [decide_eq_true (show fits IntKind.i64 (ii + 1) from fits_small (by omega) (by omega))]
        refine brn_tt ?_
        rw [if_pos h3] at hs
        have hs1 : ints (sortedTo mkB i) ++ [[D.k IntKind.i64 ii]] = ints (sortedTo mkB (i + 1)) := by rw [hs, hii]; simp [ints]
        have hs2 : (ints (sortedTo mkB i)).length + 1 = (sortedTo mkB (i + 1)).length := by rw [hs]; simp [ints]
        rw [hs1, hs2]
        refine hB2 (i + 1, ii + 1) [(20, some 24), (11, some 11), (0, some 0), (1, some 1), (2, some 2), (3, some 3), (4, some 4)] _ ⟨by simp only; omega, hi'⟩ (by simp only; omega) (Wr.of2 rfl rfl (.inr rfl) rfl ⟨rfl, rfl, rfl, rfl, ⟨_, rfl, rfl⟩, rfl, rfl, ⟨_, rfl, rfl⟩, ⟨_, rfl, rfl⟩, ⟨_, rfl, rfl⟩, trivial⟩ ⟨rfl, ⟨rfl, rfl, trivial⟩, ⟨rfl, rfl, rfl, rfl, rfl, rfl, rfl, trivial⟩, ⟨rfl, rfl, rfl, rfl, rfl, rfl, rfl, rfl, rfl, trivial⟩, ⟨rfl, rfl, rfl, rfl, rfl, rfl, rfl, rfl, rfl, trivial⟩, rfl, rfl, trivial⟩)
      · rw [decide_eq_true (show fits IntKind.i64 (ii + 1) from fits_small (by omega) (by omega))]
        refine brn_tt ?_
        rw [if_neg (by rw [h3]; decide), List.append_nil] at hs
        rw [← hs]
        refine hB2 (i + 1, ii + 1) [(20, some 20), (11, some 11), (0, some 0), (1, some 1), (2, some 2), (3, some 3), (4, some 4)] _ ⟨by simp only; omega, hi'⟩ (by simp only; omega) (Wr.of2 rfl rfl (.inr rfl) rfl ⟨rfl, rfl, rfl, rfl, ⟨_, rfl, rfl⟩, rfl, rfl, ⟨_, rfl, rfl⟩, ⟨_, rfl, rfl⟩, ⟨_, rfl, rfl⟩, trivial⟩ ⟨rfl, ⟨rfl, rfl, trivial⟩, ⟨rfl, rfl, rfl, rfl, rfl, rfl, rfl, trivial⟩, ⟨rfl, rfl, rfl, rfl, rfl, rfl, rfl, rfl, rfl, trivial⟩, ⟨rfl, rfl, rfl, rfl, rfl, rfl, rfl, rfl, rfl, trivial⟩, rfl, rfl, trivial⟩)
    · have h2 := of_decide_eq_false h2
      rw [hbl] at h2
      obtain rfl : i = mkB.length := by omega
      have hsl : sr.length = n := by rw [hsr]; simp [sortedR]
      have hml : mr.length = n := by rw [hmr]; simp [markedR]
      rw [decide_eq_true (show sr.length + 1 ≤ 1000000 by omega)]
      refine brn_tt ?_
      rw [decide_eq_true (show mr.length + 1 ≤ 1000000 by omega)]
      refine brn_tt ?_
      rw [decide_eq_true (show fits IntKind.i64 (ni + 1) from fits_small (by omega) (by omega))]
      refine brn_tt ?_
      have hs1 : sr ++ [[D.sl 1 (ints (sortedTo mkB mkB.length))]] = sortedR teeth (n + 1) := by rw [sortedR_succ, hsr]; unfold marksN; rw [HK.out, ← hmk]; rfl
      have hs2 : mr ++ [[D.sl 1 (bools mkB)]] = markedR teeth (n + 1) := by rw [markedR_succ, hmr]; unfold marksN; rw [HK.out, ← hmk]
      rw [hs1, hs2, hsl, hml]
      refine hB (n + 1, ni + 1) [(0, some 0), (1, some 1), (2, some 2), (3, some 25), (4, some 30)] _ ⟨by simp only; omega, by simp only; omega⟩ (by simp only; omega) (Wr.of2 rfl rfl (.inr rfl) rfl ⟨rfl, rfl, ⟨_, rfl, rfl⟩, ⟨_, rfl, rfl⟩, ⟨_, rfl, rfl⟩, trivial⟩ ⟨⟨rfl, rfl, rfl, rfl, rfl, rfl, rfl, trivial⟩, ⟨rfl, rfl, rfl, rfl, rfl, rfl, rfl, rfl, rfl, trivial⟩, ⟨rfl, rfl, rfl, rfl, rfl, rfl, rfl, rfl, rfl, trivial⟩, rfl, rfl, trivial⟩)
  · have h := of_decide_eq_false h
    have e : (p + 1).toNat = n := by omega
    rw [e, hsr, hmr, htr]
end Go.Proofs.Tryz

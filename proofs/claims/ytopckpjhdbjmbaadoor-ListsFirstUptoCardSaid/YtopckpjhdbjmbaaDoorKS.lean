/- ListsFirst returns true for every two rows of entries, every prefix, every two lists of members and every communities of bulk at most 1048576 together, and all read afterwards as they read before; three tables and two errors of the library listed as they stand in its text. -/
import Derived.Test.YtopckpjhdbjmbaaDoorZK
import Derived.Test.YtopckpjhdbjmbaaDoorZI
import Derived.Test.YtopckpjhdbjmbaaDoorCards
import Derived.Test.YtopckpjhdbjmbaaDoorTie
namespace Go.Proofs.YtopckpjhdbjmbaaDoor.LsS
open Go.ChangeShapes Go.WideShapes Go.ChangeAt Go.RowKit Go.Proofs.YtopckpjhdbjmbaaDoor.Lx Go.Proofs.YtopckpjhdbjmbaaDoor.Ld
open Go.ChangeMaps (open_string shut_string)

theorem reads (os : Os) {H : Type} (enc : TypeId × Value → H) : ∃ places, DataW.whole enc Tryd.prog ((World.laidAll Tryd.prog os Rows.listsFirstUptoRow.laid).forCall (fun _ _ => 0) ⟨#[], #[.slice none 0 0, .slice none 0 0, .agg #[.int .u32 0, .int .i64 0], .slice none 0 0, .slice none 0 0, .slice none 0 0], []⟩).memory Tryd.f4.params.toList Rows.listsFirstSpec.vars false (#[.slice none 0 0, .slice none 0 0, .agg #[.int .u32 0, .int .i64 0], .slice none 0 0, .slice none 0 0, .slice none 0 0] : Array Value).toList 8 = some ([.nil, .nil, .agg [.lit (.int .u32 0), .lit (.int .i64 0)], .nil, .nil, .nil], [], places) :=
  ⟨[], by kernel_rfl⟩
set_option maxRecDepth 100000 in
theorem lifted (os : Os) (started : os.Started) (H : Type) (enc : TypeId × Value → H) (F : Stop.Interp) :
    ReturnsInHanded {} Tryd.checked os 4 .any ((Rows.OpenSpec.upto Rows.listsFirstSpec).preRow enc Tryd.prog Tryd.f4 Rows.listsFirstUptoRow.domain false Rows.listsFirstUptoRow.laid) (((Rows.OpenSpec.upto Rows.listsFirstSpec).at F).post enc Tryd.prog Tryd.f4 false true false false) := by
  obtain ⟨places, hx⟩ := reads os enc
  refine returnsInHanded_of_row (C := Tryd.checked) (s := Rows.OpenSpec.upto Rows.listsFirstSpec) ownL started (by kernel_rfl) Tryd.func4
    (witness_cond (enc := enc) (C := Tryd.checked) (World.laidAll Tryd.prog os Rows.listsFirstUptoRow.laid) #[.slice none 0 0, .slice none 0 0, .agg #[.int .u32 0, .int .i64 0], .slice none 0 0, .slice none 0 0, .slice none 0 0] (World.laidAll_os _ _ _) (World.shaped_of_ZipB (by kernel_rfl) (by kernel_rfl)) (by kernel_rfl)
      (OpenSpec.preRow_of_cond 8 hx (by kernel_rfl) (fun k hk => by cases hk; kernel_rfl) (by kernel_rfl) (by rw [MakeChecks.laidMetH_plain _ _ _ (by kernel_rfl)]; exact laidMet_laidAll _ (by kernel_rfl) (by kernel_rfl)))) ?_
  intro W base args ds gs before hval0 hW _ hcond _ hlaid hsh _
  have hval : ∀ (j : Nat) t v, Tryd.f4.params[j]? = some t → args[j]? = some v → Value.okWide Tryd.prog W .any base t v := hval0
  have hk : Rows.uptoSmall H (ds ++ gs) = true := hcond _ rfl
  have hW' := hW
  obtain ⟨p, q, hA0, hV, rfl, hfz, hnd⟩ := hW
  have hA : DataW.TrodAll enc Tryd.prog W 0 (fun _ => true) true Tryd.f4.params.toList args.toList ds p := hA0
  rw [Tryd.params4] at hA hval
  obtain ⟨v0, vs0, d0, ds0, p0, q0, hargs, rfl, rfl, h0, r0⟩ := trodAll_cons hA
  obtain ⟨v1, vs1, d1, ds1, p1, q1, rfl, rfl, rfl, h1, r1⟩ := trodAll_cons r0
  obtain ⟨v2, vs2, d2, ds2, p2, q2, rfl, rfl, rfl, h2, r2⟩ := trodAll_cons r1
  obtain ⟨v3, vs3, d3, ds3, p3, q3, rfl, rfl, rfl, h3, r3⟩ := trodAll_cons r2
  obtain ⟨v4, vs4, d4, ds4, p4, q4, rfl, rfl, rfl, h4, r4⟩ := trodAll_cons r3
  obtain ⟨v5, vs5, d5, ds5, p5, q5, rfl, rfl, rfl, h5, r5⟩ := trodAll_cons r4
  obtain ⟨rfl, rfl, rfl⟩ := trodAll_nil r5
  obtain rfl : args = #[v0, v1, v2, v3, v4, v5] := by cases args; simp_all
  obtain ⟨rfl, rfl⟩ := trodVars_none hV
  have lt0 : ∀ x ∈ p0, x.block < W.heap.size := by obtain ⟨m, hm⟩ := h0; exact DataW.trod_lt m _ _ _ hm
  have k0 := h0
  have lt1 : ∀ x ∈ p1, x.block < W.heap.size := by obtain ⟨m, hm⟩ := h1; exact DataW.trod_lt m _ _ _ hm
  have k1 := h1
  have lt2 : ∀ x ∈ p2, x.block < W.heap.size := by obtain ⟨m, hm⟩ := h2; exact DataW.trod_lt m _ _ _ hm
  have k2 := h2
  have lt3 : ∀ x ∈ p3, x.block < W.heap.size := by obtain ⟨m, hm⟩ := h3; exact DataW.trod_lt m _ _ _ hm
  have k3 := h3
  have lt4 : ∀ x ∈ p4, x.block < W.heap.size := by obtain ⟨m, hm⟩ := h4; exact DataW.trod_lt m _ _ _ hm
  have k4 := h4
  have lt5 : ∀ x ∈ p5, x.block < W.heap.size := by obtain ⟨m, hm⟩ := h5; exact DataW.trod_lt m _ _ _ hm
  have k5 := h5
  obtain ⟨a0, len0, cap0, rfl⟩ := okWide_slice Tryd.underlying32 (hval 0 32 v0 rfl rfl)
  obtain ⟨m0, g0⟩ := h0
  obtain ⟨A0, n0, c0, f0, E0, e0, s0, o0, hE0, hr0⟩ := open_ents g0
  simp [Value.cells] at e0
  obtain ⟨rfl, rfl, rfl⟩ := e0
  have b0 : len0 ≤ 1048576 := bulk_slice hk (d := d0) (by simp) hr0
  obtain ⟨a1, len1, cap1, rfl⟩ := okWide_slice Tryd.underlying32 (hval 1 32 v1 rfl rfl)
  obtain ⟨m1, g1⟩ := h1
  obtain ⟨A1, n1, c1, f1, E1, e1, s1, o1, hE1, hr1⟩ := open_ents g1
  simp [Value.cells] at e1
  obtain ⟨rfl, rfl, rfl⟩ := e1
  have b1 : len1 ≤ 1048576 := bulk_slice hk (d := d1) (by simp) hr1
  obtain ⟨cs2, rfl, _⟩ := okWide_struct Tryd.underlying35 (hval 2 35 v2 rfl rfl)
  obtain ⟨m2, g2⟩ := h2
  obtain ⟨pa, pb, e2, hpa, hpa2⟩ := open_pre g2
  obtain rfl : cs2 = #[.int .u32 pa, .int .i64 pb] := by
    simp [Value.cells] at e2
    cases cs2; simp_all
  obtain ⟨a3, len3, cap3, rfl⟩ := okWide_slice Tryd.underlying36 (hval 3 36 v3 rfl rfl)
  obtain ⟨m3, g3⟩ := h3
  obtain ⟨A3, n3, c3, f3, M3, e3, s3, o3, hM3, hr3⟩ := open_mems g3
  simp [Value.cells] at e3
  obtain ⟨rfl, rfl, rfl⟩ := e3
  have b3 : len3 ≤ 1048576 := bulk_slice hk (d := d3) (by simp) hr3
  obtain ⟨a4, len4, cap4, rfl⟩ := okWide_slice Tryd.underlying36 (hval 4 36 v4 rfl rfl)
  obtain ⟨m4, g4⟩ := h4
  obtain ⟨A4, n4, c4, f4, M4, e4, s4, o4, hM4, hr4⟩ := open_mems g4
  simp [Value.cells] at e4
  obtain ⟨rfl, rfl, rfl⟩ := e4
  have b4 : len4 ≤ 1048576 := bulk_slice hk (d := d4) (by simp) hr4
  obtain ⟨a5, len5, cap5, rfl⟩ := okWide_slice Tryd.underlying22 (hval 5 22 v5 rfl rfl)
  obtain ⟨m5, g5⟩ := h5
  obtain ⟨A5, n5, c5, z5, e5, row5, bd5, hr5⟩ := open_urow g5
  simp [Value.cells] at e5
  obtain ⟨rfl, rfl, rfl⟩ := e5
  have b5 : len5 ≤ 1048576 := bulk_slice hk (d := d5) (by simp) hr5
  have hl : laidMet Tryd.prog (Rows.listsFirstUptoRow.laid) W := by
    rw [MakeChecks.laidMetH_plain _ _ _ (by kernel_rfl)] at hlaid
    exact hlaid
  have hsv : SV W := sv_of hl hsh
  clear hA0 hval0 hlaid hl hcond
  refine (first_any a0 len0 cap0 f0 E0 a1 len1 cap1 f1 E1 pa pb a3 len3 cap3 f3 M3 a4 len4 cap4 f4 M4 a5 len5 cap5 z5 W hpa hpa2 (by omega) (by omega) (by omega) (by omega) (by omega) s0 o0 hE0 s1 o1 hE1 s3 o3 hM3 s4 o4 hM4 row5 hsv).mono fun e W' ⟨he, bel⟩ => ?_
  subst he
  exact ⟨_, rfl, _, _, _, [], _, [], hW', trodAll_mk1 (shut_bool Tryd.underlying4 _),
    (trodAll_cons_mk (Below.trod laidOutL (by kernel_rfl) (of_decide_eq_true (by kernel_rfl)) k0 bel lt0) (trodAll_cons_mk (Below.trod laidOutL (by kernel_rfl) (of_decide_eq_true (by kernel_rfl)) k1 bel lt1) (trodAll_cons_mk (Below.trod laidOutL (by kernel_rfl) (of_decide_eq_true (by kernel_rfl)) k2 bel lt2) (trodAll_cons_mk (Below.trod laidOutL (by kernel_rfl) (of_decide_eq_true (by kernel_rfl)) k3 bel lt3) (trodAll_cons_mk (Below.trod laidOutL (by kernel_rfl) (of_decide_eq_true (by kernel_rfl)) k4 bel lt4) (trodAll_cons_mk (Below.trod laidOutL (by kernel_rfl) (of_decide_eq_true (by kernel_rfl)) k5 bel lt5) trodAll_mk0)))))), rfl, bel.frame _, fun h => by cases h⟩

theorem holds : Rows.ListsFirstUptoSaid :=
  OpenClaim.holds_of_cond 4 Tryd.f4 rfl rfl rfl rfl rfl rfl rfl ⟨rfl, rfl, rfl, rfl, rfl⟩ rfl rfl rfl rfl rfl (by kernel_rfl) Tryd.func4 (by kernel_rfl)
    (of_decide_eq_true (by kernel_rfl)) (by unfold Func.isWrapper; first | (rw [if_pos (by decide +kernel)]; kernel_rfl) | (rw [if_neg (by decide +kernel)]; exact ⟨rfl, rfl⟩))
    (fun os started H enc _ F => by rw [OpenClaim.pre_eq_preRow]; exact lifted os started H enc F)
theorem card_holds : Rows.ListsFirstUptoCardSaid :=
  Claim7.holds_tied_plain_at .later [] _ _ _ _ holds (fun _ h => by cases h) (by kernel_rfl) (fun _ h => by cases h) listsFirstUpto_row_tie rfl ⟨rfl, rfl⟩ (by kernel_rfl) rfl
    (fun f fn hf hfn => by
      obtain rfl : f = 4 := Option.some.inj ((show Tryd.prog.funcNamed "waymark/waymarklaw09.ListsFirst" = some 4 by kernel_rfl).symm.trans hf) |>.symm
      obtain rfl : fn = Tryd.f4 := (Option.some.inj (Tryd.func4.symm.trans hfn)).symm
      exact ⟨by kernel_rfl, fun j t ht => by
        rw [Tryd.params4] at ht
        have hm : t ∈ [32, 32, 35, 36, 36, 22] := by simpa using Array.mem_of_getElem? ht
        have hall : ([32, 32, 35, 36, 36, 22].all fun u => !Tryd.prog.wantsStandIn u) = true := by kernel_rfl
        exact (show Tryd.prog.wantsStandIn t = false by simpa using List.all_eq_true.1 hall t hm)⟩)
    (by kernel_rfl)
#print axioms card_holds
end Go.Proofs.YtopckpjhdbjmbaaDoor.LsS

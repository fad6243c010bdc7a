import Derived.Test.YtihmmmodimionaaDoorLR
namespace Go.Proofs.YtihmmmodimionaaDoor.Lx
open Go.RowKit

theorem infoRLine : (Tryd.prog.info? 61).map (fun i => (i.zero, i.size, i.bytes)) = some (some (.agg #[.int .i64 0, .slice none 0 0]), 2, 32) := by kernel_rfl
theorem wds_ne : ∀ (s : List UInt8) (i : Int) (cur : List UInt8), ∀ x ∈ wds s i cur, x.t ≠ [] := by
  have he : ∀ (i : Int) (cur : List UInt8), ∀ x ∈ endW i cur, x.t ≠ [] := by
    intro i cur x hx
    unfold endW at hx
    split at hx
    · cases hx
    · rename_i h
      have : x = ⟨cur, i - cur.length + 1⟩ := by simpa using hx
      rw [this]; exact h
  intro s
  induction s with
  | nil => intro i cur; exact he i cur
  | cons y ys ih =>
    intro i cur x hx
    rw [wds] at hx
    split at hx
    · rcases List.mem_append.1 hx with hx | hx
      · exact he _ _ x hx
      · exact ih _ _ x hx
    · exact ih _ _ x hx
/-- what stands at the head of each round -/
structure LL (s : ByteArray) (w : World) (v : Value) (wr : World) (fr nm i : Nat) (bs : List BLn) : Prop where
  le : i ≤ s.size + 1
  fle : fr ≤ i
  nle : nm ≤ i + 1
  len : bs.length ≤ i
  ws : ∀ x ∈ bs, x.ws.length ≤ 65537
  own : wr.ownsRow w.heap.size 61 2 v bs.length (bs.flatMap BLn.cells)
  inner : ∀ x ∈ bs, WRow wr w.heap.size 63 x
  p : PosR wr w.heap.size 0 0
  bel : Below w.heap.size w wr
  eq : i ≤ s.size → linesOf (rowsOf (T s) []) 1 = bs.map BLn.ln ++ linesOf (rowsOf ((T s).drop i) (((T s).take i).drop fr)) nm
  fin : i = s.size + 1 → linesOf (rowsOf (T s) []) 1 = bs.map BLn.ln
/-- what the document's Lines hands back -/
def RLinOut (ls : List Ln) (p : Int × Int × Int) (w : World) (e : Ending) (w' : World) : Prop :=
  ∃ (v : Value) (bs : List BLn), bs.map BLn.ln = ls ∧ e = .returned (.tuple #[v, .agg #[.int .i64 p.1, .int .i64 p.2.1], .int .i64 p.2.2]) ∧ w'.ownsRow w.heap.size 61 2 v bs.length (bs.flatMap BLn.cells) ∧ (∀ x ∈ bs, WRow w' w.heap.size 63 x) ∧ Below w.heap.size w w' ∧ bs.length ≤ 65537 ∧ (∀ x ∈ bs, x.ws.length ≤ 65537)

set_option maxRecDepth 100000 in
set_option maxHeartbeats 4000000 in
theorem rlines_ok (s : ByteArray) (w : World) (hs : (chk (T s)).2.2 = 0) :
    Calls Tryd.prog 9 #[.string s] w (RLinOut (linRes (T s)).1 (linRes (T s)).2 w) := by
  have hlen := chk_len hs
  rw [T_len] at hlen
  have hc := fun o => ref_check s (w.alloc o) (by unfold maxLen; omega)
  simp only [hs] at hc
  have HC := hide hc
  rw [linRes_ok hs]
  clear hc hs
  go_enter Tryd.func9, Tryd.ntmps9
  go_wp2_with fail
  refine (HC.out _).mono ?_; rintro e w1 ⟨rfl, hb1⟩
  have hp1 : PosR w1 w.heap.size 0 0 := heapB hb1 (heap_new w _)
  have hbw : Below w.heap.size w w1 := below_wide (bel_one _ _) hb1
  go_wp2_with fail
  have HLL : Hid (LL s w (.slice none 0 0) (w1.alloc (Obj.cells #[.int .i64 (chk (T s)).1, .int .i64 (chk (T s)).2.1] 24)) 0 1 0 []) := by
    exact ⟨Nat.zero_le _, Nat.le_refl _, Nat.le_refl _, Nat.le_refl _, fun x hx => (by cases hx), World.ownsRow_nil _ _ _ _, fun x hx => (by cases hx), heap_old hp1, below_wide hbw (bel_one w1 _), fun _ => rfl, fun h => by omega⟩
  clear hp1 hbw hb1 HC
  generalize (w1.alloc (Obj.cells #[.int .i64 (chk (T s)).1, .int .i64 (chk (T s)).2.1] 24)) = w2 at *
  go_loopw [7, 8, 9, 10] (fun v fv nv j wr => ∃ (fr nm i : Nat) (bs : List BLn), fv = .int .i64 fr ∧ nv = .int .i64 nm ∧ j = .int .i64 i ∧ LL s w v wr fr nm i bs) (fun _ _ _ j _ => s.size + 1 - (intOf j).toNat)
  case atStart => exact ⟨0, 1, 0, [], rfl, rfl, rfl, HLL.out⟩
  case round =>
    clear HLL
    obtain ⟨fr, nm, i, bs, rfl, rfl, rfl, hll⟩ := hrel
    have hle := hll.le
    have hfl := hll.fle
    have hnl := hll.nle
    have hbl := hll.len
    have p0 := cell_heap (j := 0) hll.p rfl
    have p1 := cell_heap (j := 1) hll.p rfl
    have fp0 := frozen_heap (j := 0) hll.p
    have fp1 := frozen_heap (j := 1) hll.p
    have HT := hide hll
    clear hll
    by_cases hi : i ≤ s.size
    case neg =>
      have HE := hide (HT.out.fin (by omega))
      go_wp2_with fail
      refine bodyPost_ret (v := .tuple #[u7, .agg #[.int .i64 0, .int .i64 0], .int .i64 0]) (by simp [results, Tryd.results9, go_sem, p0, p1]) rfl ?_
      have hpos := own_ne_row HT.out.own HT.out.p (by decide)
      have hb2 := ((HT.out.bel.setCell (p := ⟨w.heap.size, 0, none⟩) (Nat.le_refl _) (.int .i64 0)).setCell (p := ⟨w.heap.size, 1, none⟩) (Nat.le_refl _) (.int .i64 0))
      refine ⟨_, bs, HE.out.symm, rfl, ownsRow_setCell_other (ownsRow_setCell_other HT.out.own hpos _) hpos _, fun x hx => ?_, hb2, by omega, HT.out.ws⟩
      have hposx := own_ne_row (HT.out.inner x hx) HT.out.p (by decide)
      exact ownsRow_setCell_other (ownsRow_setCell_other (HT.out.inner x hx) hposx _) hposx _
    by_cases hch : ∃ h : i < s.size, ¬ (s[i].toNat : Int) = 10
    · obtain ⟨hlt, hx⟩ := hch
      have hx1 : ((s[i].toNat : Int) == 10) = false := beq_if hx
      have hx2 : ((s[i].toNat : Int) != 10) = true := by rw [bne, hx1]; rfl
      have hne : ¬ s[i] = 10 := fun e => hx (by have := (u8_eq s[i] 10 (by omega)).1 e; omega)
      have heq := HT.out.eq hi
      rw [T_drop s i hlt, rowsOf, if_neg hne] at heq
      have htk : ((T s).take (i + 1)).drop fr = ((T s).take i).drop fr ++ [s[i]] := by
        rw [T_take s i hlt, List.drop_append_of_le_length (by rw [List.length_take, T_len]; omega)]
      rw [← htk] at heq
      have HE := hide heq
      clear heq hne htk
      go_wp2_with fail
      exact ⟨⟨fr, nm, i + 1, bs, rfl, rfl, by go_num, ⟨by omega, by omega, by omega, by omega, HT.out.ws, HT.out.own, HT.out.inner, HT.out.p, HT.out.bel, fun _ => HE.out, fun h => by omega⟩⟩, by simp [intOf]; omega⟩
    have hTr : T (s.extract fr i) = ((T s).take i).drop fr := T_extract s fr i
    have hnext : ∀ ls : List BLn, ls.map BLn.ln = lineOf nm (T (s.extract fr i)) → (i + 1 ≤ s.size → linesOf (rowsOf (T s) []) 1 = bs.map BLn.ln ++ (ls.map BLn.ln ++ linesOf (rowsOf ((T s).drop (i + 1)) (((T s).take (i + 1)).drop (i + 1))) ((nm + 1 : Nat) : Int))) ∧ (i + 1 = s.size + 1 → linesOf (rowsOf (T s) []) 1 = bs.map BLn.ln ++ ls.map BLn.ln) := by
      intro ls hls
      have heq := HT.out.eq hi
      rw [← hTr] at heq
      refine ⟨fun h => ?_, fun h => ?_⟩
      · have hlt : i < s.size := by omega
        have hx : s[i] = 10 := by
          have h2 : (s[i].toNat : Int) = 10 := by
            by_cases e : (s[i].toNat : Int) = 10
            · exact e
            · exact absurd ⟨hlt, e⟩ hch
          exact (u8_eq s[i] 10 (by omega)).2 (by omega)
        rw [T_drop s i hlt, rowsOf, if_pos hx, linesOf, ← hls] at heq
        have hd : ((T s).take (i + 1)).drop (i + 1) = [] := List.drop_eq_nil_of_le (by rw [List.length_take]; omega)
        rw [heq, hd]
        push_cast
        rfl
      · have hd : (T s).drop i = [] := List.drop_eq_nil_of_le (by rw [T_len]; omega)
        rw [hd, rowsOf, linesOf, linesOf, ← hls, List.append_nil] at heq
        exact heq
    have HWD := hide (fun W => words_any (s.extract fr i) nm W (by rw [ByteArray.size_extract]; omega))
    by_cases hlt : i < s.size
    · have hx1 : ((s[i].toNat : Int) == 10) = true := by
        apply beq_it
        by_cases e : (s[i].toNat : Int) = 10
        · exact e
        · exact absurd ⟨hlt, e⟩ hch
      have hx2 : ((s[i].toNat : Int) != 10) = false := by rw [bne, hx1]; rfl
      clear hch hTr
      have hif : (0 : Int) ≤ (fr : Int) := by omega
      have hfi : (fr : Int) ≤ i := by omega
      have his : (i : Int) ≤ s.size := by omega
      go_wp2_with fail
      refine (HWD.out _).mono ?_; rintro e w3 ⟨v, ws, rfl, hwm, hown, hb3, hwl⟩
      have HO3 := hide (own_below HT.out.own hb3)
      have HI3 := hide (fun x hx => own_below (HT.out.inner x hx) hb3)
      have HP3 := hide (show PosR w3 w.heap.size 0 0 from heapB hb3 HT.out.p)
      have HB3 := hide (below_wide HT.out.bel hb3)
      have HWS := hide hown
      obtain ⟨A, c, rfl⟩ := own_slice hown
      have hsz3 := hb3.size
      have hszb := HT.out.bel.size
      clear hown hb3 HWD
      cases ws with
      | nil =>
        have HN := hide (hnext [] (by rw [lineOf_nil hwm.symm]; rfl))
        clear hnext
        go_wp2_with fail
        exact ⟨⟨i + 1, nm + 1, i + 1, bs, by go_num, by go_num, by go_num, ⟨by omega, Nat.le_refl _, by omega, by omega, HT.out.ws, HO3.out.alloc _, fun x hx => (HI3.out x hx).alloc _, heap_old HP3.out, HB3.out.alloc HB3.out.size _, fun h => by simpa using HN.out.1 h, fun h => by simpa using HN.out.2 h⟩⟩, by simp [intOf]; omega⟩
      | cons x xs =>
        have hxne : T x.b ≠ [] := wds_ne (T (s.extract fr i)) 0 [] x.wd (by rw [← hwm]; simp)
        have hx0 : 0 < x.b.size := by rw [size_T]; exact List.length_pos_iff.2 hxne
        have hxh : (T x.b).headD 0 = x.b[0] := by rw [T_cons' x.b hx0]; rfl
        obtain ⟨g, hg, hgc⟩ : ∃ g, A = some ⟨g, 0, none⟩ ∧ w3.cell? ⟨g, 0, none⟩ = some (.string x.b) := by
          rcases HWS.out.2 with ⟨h1, h2⟩ | ⟨g, cap, cur, h1, _⟩
          · cases h2
          · obtain ⟨rfl, rfl⟩ : A = some ⟨g, 0, none⟩ ∧ c = cap := by simpa using h1
            exact ⟨g, rfl, by rw [HWS.out.cellAt 0 (by simp)]; rfl⟩
        subst hg
        have hg3 := fun o => cellB (bel_one w3 o) hgc
        by_cases hb : (x.b[0].toNat : Int) = 33
        · have hb1 : ((x.b[0].toNat : Int) == 33) = true := beq_it hb
          have hb2 : ((x.b[0].toNat : Int) != 33) = false := by rw [bne, hb1]; rfl
          have HN := hide (hnext [] (by rw [lineOf_bang hwm.symm (by show (T x.b).headD 0 = 33; rw [hxh]; exact (u8_eq _ 33 (by omega)).2 (by omega))]; rfl))
          clear hnext hwm hxne hxh
          go_wp2_with fail
          exact ⟨⟨i + 1, nm + 1, i + 1, bs, by go_num, by go_num, by go_num, ⟨by omega, Nat.le_refl _, by omega, by omega, HT.out.ws, HO3.out.alloc _, fun x hx => (HI3.out x hx).alloc _, heap_old HP3.out, HB3.out.alloc HB3.out.size _, fun h => by simpa using HN.out.1 h, fun h => by simpa using HN.out.2 h⟩⟩, by simp [intOf]; omega⟩
        · have hb1 : ((x.b[0].toNat : Int) == 33) = false := beq_if hb
          have hb2 : ((x.b[0].toNat : Int) != 33) = true := by rw [bne, hb1]; rfl
          have HN := hide (hnext [⟨indOf (x :: xs), nm, .slice (some ⟨g, 0, none⟩) (x :: xs).length c, x :: xs⟩] (by
            rw [lineOf_is hwm.symm (by show ¬ (T x.b).headD 0 = 33; rw [hxh]; intro e; exact hb (by have := (u8_eq x.b[0] 33 (by omega)).1 e; omega))]
            simp [BLn.ln, indOf, BWd.wd]))
          clear hnext hwm hxne hxh
          have hwl2 : (x :: xs).length ≤ 65537 := by rw [ByteArray.size_extract] at hwl; omega
          generalize hxs : x :: xs = ws at *
          have hwsl : (0 : Int) < ws.length := by rw [← hxs]; simp
          obtain ⟨i1, hi1, iz1, is1, ib1⟩ := info_parts infoRLine
          have HOWN2 := hide ((HO3.out.alloc (Obj.cells #[.int .i64 (indOf ws), .slice (some ⟨g, 0, none⟩) ws.length c] 61)).alloc (Obj.cells #[.int .i64 (indOf ws), .slice (some ⟨g, 0, none⟩) ws.length c] 61))
          go_wp2_with (at_builtin; (refine wpList_append_own _ rfl (.tmp 56) (.tmp 58) 28 rfl w.heap.size 61 i1 _ 2 32 Tryd.underlying28 hi1 iz1 is1 ib1 rfl (by decide) _ bs.length (bs.flatMap BLn.cells) rfl HOWN2.out ⟨w3.heap.size + 1, 0, none⟩ 1 1 [.int .i64 (indOf ws), .slice (some ⟨g, 0, none⟩) ws.length c] rfl rfl ?cells ?ones ?c63 ?cby ?cbase ?_))
          case cells =>
            intro j u hj
            match j, hj with
            | 0, hj => simp at hj; subst hj; simp [Addr.add, go_sem]
            | 1, hj => simp at hj; subst hj; simp [Addr.add, go_sem]
            | j + 2, hj => simp at hj
          case ones => simp [Value.oneCell']
          case c63 => unfold maxLen; omega
          case cby => omega
          case cbase => have := HB3.out.size; simp; omega
          intro v' w5 hown' hgrow _
          have HGR := hide hgrow
          have HOW := hide hown'
          clear hgrow hown'
          go_wp2_with fail
          have hpp : PosR ((w3.alloc (Obj.cells #[.int .i64 (indOf ws), .slice (some ⟨g, 0, none⟩) ws.length c] 61)).alloc (Obj.cells #[.int .i64 (indOf ws), .slice (some ⟨g, 0, none⟩) ws.length c] 61)) w.heap.size 0 0 := heap_old (heap_old HP3.out)
          have hszB := HB3.out.size
          refine ⟨⟨i + 1, nm + 1, i + 1, bs ++ [⟨indOf ws, nm, .slice (some ⟨g, 0, none⟩) ws.length c, ws⟩], by go_num, by go_num, by go_num, ⟨by omega, Nat.le_refl _, by omega, by simp; omega, fun y hy => ?_, by have := HOW.out; simpa [BLn.cells] using this, fun y hy => ?_, heap_grown hpp HGR.out (own_ne_row HOWN2.out hpp (by decide)), ((HB3.out.alloc hszB _).alloc (by simp; omega) _).grown HGR.out (by simp; omega) (fun k' hk' => (HOWN2.out.lt k' hk').1), fun h => by rw [HN.out.1 h]; simp, fun h => by rw [HN.out.2 h]; simp⟩⟩, by simp [intOf]; omega⟩
          · rcases List.mem_append.1 hy with hy | hy
            · exact HT.out.ws y hy
            · have : y = ⟨indOf ws, nm, .slice (some ⟨g, 0, none⟩) ws.length c, ws⟩ := by simpa using hy
              rw [this]; exact hwl2
          · rcases List.mem_append.1 hy with hy | hy
            · exact own_kept (((HI3.out y hy).alloc _).alloc _) HGR.out (fun g' hg' => own_types HOWN2.out (((HI3.out y hy).alloc _).alloc _) (by decide) g' hg')
            · have : y = ⟨indOf ws, nm, .slice (some ⟨g, 0, none⟩) ws.length c, ws⟩ := by simpa using hy
              rw [this]
              exact own_kept (own_base ((HWS.out.alloc _).alloc _) hszb) HGR.out (fun g' hg' => own_types HOWN2.out ((HWS.out.alloc _).alloc _) (by decide) g' hg')
    · clear hch hTr
      have hif : (0 : Int) ≤ (fr : Int) := by omega
      have hfi : (fr : Int) ≤ i := by omega
      have his : (i : Int) ≤ s.size := by omega
      go_wp2_with fail
      refine (HWD.out _).mono ?_; rintro e w3 ⟨v, ws, rfl, hwm, hown, hb3, hwl⟩
      have HO3 := hide (own_below HT.out.own hb3)
      have HI3 := hide (fun x hx => own_below (HT.out.inner x hx) hb3)
      have HP3 := hide (show PosR w3 w.heap.size 0 0 from heapB hb3 HT.out.p)
      have HB3 := hide (below_wide HT.out.bel hb3)
      have HWS := hide hown
      obtain ⟨A, c, rfl⟩ := own_slice hown
      have hsz3 := hb3.size
      have hszb := HT.out.bel.size
      clear hown hb3 HWD
      cases ws with
      | nil =>
        have HN := hide (hnext [] (by rw [lineOf_nil hwm.symm]; rfl))
        clear hnext
        go_wp2_with fail
        exact ⟨⟨i + 1, nm + 1, i + 1, bs, by go_num, by go_num, by go_num, ⟨by omega, Nat.le_refl _, by omega, by omega, HT.out.ws, HO3.out.alloc _, fun x hx => (HI3.out x hx).alloc _, heap_old HP3.out, HB3.out.alloc HB3.out.size _, fun h => by simpa using HN.out.1 h, fun h => by simpa using HN.out.2 h⟩⟩, by simp [intOf]; omega⟩
      | cons x xs =>
        have hxne : T x.b ≠ [] := wds_ne (T (s.extract fr i)) 0 [] x.wd (by rw [← hwm]; simp)
        have hx0 : 0 < x.b.size := by rw [size_T]; exact List.length_pos_iff.2 hxne
        have hxh : (T x.b).headD 0 = x.b[0] := by rw [T_cons' x.b hx0]; rfl
        obtain ⟨g, hg, hgc⟩ : ∃ g, A = some ⟨g, 0, none⟩ ∧ w3.cell? ⟨g, 0, none⟩ = some (.string x.b) := by
          rcases HWS.out.2 with ⟨h1, h2⟩ | ⟨g, cap, cur, h1, _⟩
          · cases h2
          · obtain ⟨rfl, rfl⟩ : A = some ⟨g, 0, none⟩ ∧ c = cap := by simpa using h1
            exact ⟨g, rfl, by rw [HWS.out.cellAt 0 (by simp)]; rfl⟩
        subst hg
        have hg3 := fun o => cellB (bel_one w3 o) hgc
        by_cases hb : (x.b[0].toNat : Int) = 33
        · have hb1 : ((x.b[0].toNat : Int) == 33) = true := beq_it hb
          have hb2 : ((x.b[0].toNat : Int) != 33) = false := by rw [bne, hb1]; rfl
          have HN := hide (hnext [] (by rw [lineOf_bang hwm.symm (by show (T x.b).headD 0 = 33; rw [hxh]; exact (u8_eq _ 33 (by omega)).2 (by omega))]; rfl))
          clear hnext hwm hxne hxh
          go_wp2_with fail
          exact ⟨⟨i + 1, nm + 1, i + 1, bs, by go_num, by go_num, by go_num, ⟨by omega, Nat.le_refl _, by omega, by omega, HT.out.ws, HO3.out.alloc _, fun x hx => (HI3.out x hx).alloc _, heap_old HP3.out, HB3.out.alloc HB3.out.size _, fun h => by simpa using HN.out.1 h, fun h => by simpa using HN.out.2 h⟩⟩, by simp [intOf]; omega⟩
        · have hb1 : ((x.b[0].toNat : Int) == 33) = false := beq_if hb
          have hb2 : ((x.b[0].toNat : Int) != 33) = true := by rw [bne, hb1]; rfl
          have HN := hide (hnext [⟨indOf (x :: xs), nm, .slice (some ⟨g, 0, none⟩) (x :: xs).length c, x :: xs⟩] (by
            rw [lineOf_is hwm.symm (by show ¬ (T x.b).headD 0 = 33; rw [hxh]; intro e; exact hb (by have := (u8_eq x.b[0] 33 (by omega)).1 e; omega))]
            simp [BLn.ln, indOf, BWd.wd]))
          clear hnext hwm hxne hxh
          have hwl2 : (x :: xs).length ≤ 65537 := by rw [ByteArray.size_extract] at hwl; omega
          generalize hxs : x :: xs = ws at *
          have hwsl : (0 : Int) < ws.length := by rw [← hxs]; simp
          obtain ⟨i1, hi1, iz1, is1, ib1⟩ := info_parts infoRLine
          have HOWN2 := hide ((HO3.out.alloc (Obj.cells #[.int .i64 (indOf ws), .slice (some ⟨g, 0, none⟩) ws.length c] 61)).alloc (Obj.cells #[.int .i64 (indOf ws), .slice (some ⟨g, 0, none⟩) ws.length c] 61))
          go_wp2_with (at_builtin; (refine wpList_append_own _ rfl (.tmp 56) (.tmp 58) 28 rfl w.heap.size 61 i1 _ 2 32 Tryd.underlying28 hi1 iz1 is1 ib1 rfl (by decide) _ bs.length (bs.flatMap BLn.cells) rfl HOWN2.out ⟨w3.heap.size + 1, 0, none⟩ 1 1 [.int .i64 (indOf ws), .slice (some ⟨g, 0, none⟩) ws.length c] rfl rfl ?cells ?ones ?c63 ?cby ?cbase ?_))
          case cells =>
            intro j u hj
            match j, hj with
            | 0, hj => simp at hj; subst hj; simp [Addr.add, go_sem]
            | 1, hj => simp at hj; subst hj; simp [Addr.add, go_sem]
            | j + 2, hj => simp at hj
          case ones => simp [Value.oneCell']
          case c63 => unfold maxLen; omega
          case cby => omega
          case cbase => have := HB3.out.size; simp; omega
          intro v' w5 hown' hgrow _
          have HGR := hide hgrow
          have HOW := hide hown'
          clear hgrow hown'
          go_wp2_with fail
          have hpp : PosR ((w3.alloc (Obj.cells #[.int .i64 (indOf ws), .slice (some ⟨g, 0, none⟩) ws.length c] 61)).alloc (Obj.cells #[.int .i64 (indOf ws), .slice (some ⟨g, 0, none⟩) ws.length c] 61)) w.heap.size 0 0 := heap_old (heap_old HP3.out)
          have hszB := HB3.out.size
          refine ⟨⟨i + 1, nm + 1, i + 1, bs ++ [⟨indOf ws, nm, .slice (some ⟨g, 0, none⟩) ws.length c, ws⟩], by go_num, by go_num, by go_num, ⟨by omega, Nat.le_refl _, by omega, by simp; omega, fun y hy => ?_, by have := HOW.out; simpa [BLn.cells] using this, fun y hy => ?_, heap_grown hpp HGR.out (own_ne_row HOWN2.out hpp (by decide)), ((HB3.out.alloc hszB _).alloc (by simp; omega) _).grown HGR.out (by simp; omega) (fun k' hk' => (HOWN2.out.lt k' hk').1), fun h => by rw [HN.out.1 h]; simp, fun h => by rw [HN.out.2 h]; simp⟩⟩, by simp [intOf]; omega⟩
          · rcases List.mem_append.1 hy with hy | hy
            · exact HT.out.ws y hy
            · have : y = ⟨indOf ws, nm, .slice (some ⟨g, 0, none⟩) ws.length c, ws⟩ := by simpa using hy
              rw [this]; exact hwl2
          · rcases List.mem_append.1 hy with hy | hy
            · exact own_kept (((HI3.out y hy).alloc _).alloc _) HGR.out (fun g' hg' => own_types HOWN2.out (((HI3.out y hy).alloc _).alloc _) (by decide) g' hg')
            · have : y = ⟨indOf ws, nm, .slice (some ⟨g, 0, none⟩) ws.length c, ws⟩ := by simpa using hy
              rw [this]
              exact own_kept (own_base ((HWS.out.alloc _).alloc _) hszb) HGR.out (fun g' hg' => own_types HOWN2.out ((HWS.out.alloc _).alloc _) (by decide) g' hg')
end Go.Proofs.YtihmmmodimionaaDoor.Lx

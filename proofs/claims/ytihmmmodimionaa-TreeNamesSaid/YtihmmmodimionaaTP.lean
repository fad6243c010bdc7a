/- What the document's reading answers, and that it is the reading's own; in plain words, no program is in sight. -/
import Derived.Test.YtihmmmodimionaaTA
namespace Go.Proofs.Ytihmmmodimionaa.Tr
open Go.RowKit Go.Proofs.Ytihmmmodimionaa Go.Proofs.Ytihmmmodimionaa.Lx

structure RowD where
  deep : Nat
  ws : List ByteArray
  ps : List (Int × Int)
  op : Bool
/-- statements as rows -/
def rowsF : Nat → Fo → List RowD
  | _, .nil => []
  | d, .cons ws ps b K R => ⟨d, ws, ps, b⟩ :: (rowsF (d + 1) K ++ rowsF d R)
theorem rowsF_app (d : Nat) : ∀ F G : Fo, rowsF d (F.app G) = rowsF d F ++ rowsF d G
  | .nil, _ => rfl
  | .cons ws ps b K R, G => by rw [Fo.app, rowsF, rowsF, rowsF_app d R]; simp
abbrev Pl := Int × Int
inductive RR where
  | ok (rows : List RowD) (br : List Pl) (rest : List BTok) : RR
  | err (e l c : Int) : RR
def leafR (d : Nat) (n : List BTok) : List BTok → List RowD
  | [] => []
  | x :: xs => ⟨d, n.map BTok.b ++ [x.b], n.map BTok.pos ++ [x.pos], false⟩ :: leafR d n xs
theorem leafR_rows (d : Nat) (n : List BTok) : ∀ l : List BTok, rowsF d (leafs n l) = leafR d n l
  | [] => rfl
  | x :: xs => by rw [leafs, rowsF, leafR, leafR_rows d n xs]; simp [rowsF]
theorem leafR_len (d : Nat) (n : List BTok) : ∀ l : List BTok, (leafR d n l).length = l.length
  | [] => rfl
  | _ :: xs => by rw [leafR, List.length_cons, leafR_len d n xs]; rfl
def endR (rows : List RowD) (br : List Pl) (first : Pl) (n : List BTok) (all : List RowD) : List BTok → RR
  | [] => .err 71 first.1 first.2
  | t :: ts =>
    if t.k = 4 then .ok (rows ++ (if all.length = 0 then [⟨br.length, n.map BTok.b, n.map BTok.pos, false⟩] else all)) br ts
    else if t.k = 2 ∧ all.length = 0 then
      if 32 ≤ br.length then .err 140 t.l t.c
      else .ok (rows ++ [⟨br.length, n.map BTok.b, n.map BTok.pos, true⟩]) (t.pos :: br) ts
    else .err 130 t.l t.c
def oneR (rows : List RowD) (br : List Pl) (first : Pl) (toks : List BTok) : RR :=
  match behindT toks with
  | [] => .err 71 first.1 first.2
  | t :: ts =>
    if t.k = 5 then
      match behindT ts with
      | [] => .err 71 first.1 first.2
      | u :: us => if u.k = 6 ∧ (wordsT ts).length ≠ 0 then endR rows br first (wordsT toks) (leafR br.length (wordsT toks) (wordsT ts)) us else .err 130 u.l u.c
    else endR rows br first (wordsT toks) [] (t :: ts)
def refR : Nat → List RowD → List Pl → List BTok → RR
  | 0, _, _, _ => .err 0 0 0
  | _ + 1, rows, br, [] => match br with
    | [] => .ok rows [] []
    | o :: _ => .err 71 o.1 o.2
  | f + 1, rows, br, t :: ts =>
    if t.k = 1 then
      match oneR rows br t.pos (t :: ts) with
      | .ok rows' br' r => refR f rows' br' r
      | .err e l c => .err e l c
    else if t.k = 3 ∧ br ≠ [] then refR f rows br.tail ts
    else .err 130 t.l t.c
theorem endR_rest {rows : List RowD} {br : List Pl} {first : Pl} {n : List BTok} {all : List RowD} {toks : List BTok} {rows' : List RowD} {br' : List Pl} {r : List BTok} (h : endR rows br first n all toks = .ok rows' br' r) : r.length < toks.length := by
  cases toks with
  | nil => cases h
  | cons t ts =>
    rw [endR] at h
    by_cases k4 : t.k = 4
    · rw [if_pos k4] at h
      cases h
      simp
    · rw [if_neg k4] at h
      by_cases k2 : t.k = 2 ∧ all.length = 0
      · rw [if_pos k2] at h
        by_cases hd : 32 ≤ br.length
        · rw [if_pos hd] at h; cases h
        · rw [if_neg hd] at h; cases h; simp
      · rw [if_neg k2] at h; cases h
theorem behind_one {t : BTok} {ts : List BTok} (h : t.k = 1) : behindT (t :: ts) = behindT ts := by rw [behindT, if_pos h]
theorem oneR_rest {rows : List RowD} {br : List Pl} {first : Pl} {toks : List BTok} {rows' : List RowD} {br' : List Pl} {r : List BTok} (h : oneR rows br first toks = .ok rows' br' r) : r.length < toks.length := by
  have hb := behind_le toks
  unfold oneR at h
  split at h
  · cases h
  · rename_i t ts e
    rw [e] at hb
    split at h
    · have hb2 := behind_le ts
      split at h
      · cases h
      · rename_i u us e2
        rw [e2] at hb2
        split at h
        · have := endR_rest h
          simp at hb hb2
          omega
        · cases h
    · have := endR_rest h
      omega
/-- enough fuel is enough -/
theorem refR_fuel : ∀ (f f' : Nat) (rows : List RowD) (br : List Pl) (toks : List BTok), toks.length < f → toks.length < f' → refR f rows br toks = refR f' rows br toks := by
  intro f
  induction f with
  | zero => intro f' rows br toks h; omega
  | succ f ih =>
    intro f' rows br toks h h'
    obtain ⟨g, rfl⟩ : ∃ g, f' = g + 1 := ⟨f' - 1, by omega⟩
    cases toks with
    | nil => rfl
    | cons t ts =>
      simp only [List.length_cons] at h h'
      unfold refR
      split
      · cases ho : oneR rows br t.pos (t :: ts) with
        | err e l c => rfl
        | ok rows' br' r =>
          have := oneR_rest ho
          simp only [List.length_cons] at this
          exact ih g rows' br' r (by omega) (by omega)
      · split
        · exact ih g rows br.tail ts (by omega) (by omega)
        · rfl
theorem tailS_rest {rec : Pl → List BTok → PR} {deep : Nat} {first : Pl} {n : List BTok} {all : Fo} {toks : List BTok} {F : Fo} {r : List BTok} (hr : ∀ o ts K q, rec o ts = .ok K q → q.length ≤ ts.length) (h : tailS rec deep first n all toks = .ok F r) : r.length < toks.length := by
  cases toks with
  | nil => cases h
  | cons t ts =>
    rw [tailS] at h
    by_cases k4 : t.k = 4
    · rw [if_pos k4] at h
      injection h with _ h
      rw [← h]
      simp
    · rw [if_neg k4] at h
      by_cases k2 : t.k = 2 ∧ all.len = 0
      · rw [if_pos k2] at h
        by_cases hd : deep = 32
        · rw [if_pos hd] at h; cases h
        · rw [if_neg hd] at h
          cases e : rec t.pos ts with
          | err e' l c => rw [e] at h; cases h
          | ok K q =>
            rw [e] at h
            cases h
            have := hr _ _ _ _ e
            simp; omega
      · rw [if_neg k2] at h; cases h
theorem stmtF_rest {rec : Pl → List BTok → PR} {deep : Nat} {first : Pl} {toks : List BTok} {F : Fo} {r : List BTok} (hr : ∀ o ts K q, rec o ts = .ok K q → q.length ≤ ts.length) (h : stmtF rec deep first toks = .ok F r) : r.length < toks.length := by
  have hb := behind_le toks
  unfold stmtF at h
  split at h
  · cases h
  · rename_i t ts e
    rw [e] at hb
    split at h
    · have hb2 := behind_le ts
      split at h
      · cases h
      · rename_i u us e2
        rw [e2] at hb2
        split at h
        · have := tailS_rest hr h
          simp at hb hb2
          omega
        · cases h
    · have := tailS_rest hr h
      omega
theorem listF_rest : ∀ (f deep : Nat) (op : Pl) (toks : List BTok) (F : Fo) (r : List BTok), listF f deep op toks = .ok F r → r.length ≤ toks.length := by
  intro f
  induction f with
  | zero => intro deep op toks F r h; cases h
  | succ f ih =>
    intro deep op toks F r h
    cases toks with
    | nil =>
      unfold listF at h
      split at h
      · cases h; simp
      · cases h
    | cons t ts =>
      unfold listF at h
      split at h
      · split at h
        · cases h
        · cases h; simp
      · split at h
        · split at h
          · rename_i G q e
            have h1 := stmtF_rest (fun o ts K q h => ih _ _ _ _ _ h) e
            cases h2 : listF f deep op q with
            | err e l c => rw [h2] at h; cases h
            | ok H q' =>
              rw [h2] at h
              cases h
              have := ih _ _ _ _ _ h2
              omega
          · cases h
        · cases h
/-- one statement: by its reading, and by the document's -/
theorem stmt_ref {f : Nat} {rows : List RowD} {br : List Pl} {first : Pl} {toks : List BTok} {rec : Pl → List BTok → PR} (hrec : br.length < 32 → ∀ (o : Pl) (ts : List BTok) (rows : List RowD), ts.length < toks.length → match rec o ts with
      | .err e l c => refR (ts.length + 1) rows (o :: br) ts = .err e l c
      | .ok K r => refR (ts.length + 1) rows (o :: br) ts = refR (ts.length + 1) (rows ++ rowsF (br.length + 1) K) br r ∧ r.length < ts.length) (hbr : br.length ≤ 32) (hf : toks.length ≤ f) :
    (match oneR rows br first toks with
      | .ok rows' br' r => refR f rows' br' r
      | .err e l c => .err e l c) = (match stmtF rec br.length first toks with
      | .ok F r => refR f (rows ++ rowsF br.length F) br r
      | .err e l c => .err e l c) := by
  have key : ∀ (n : List BTok) (all : Fo) (allR : List RowD) (ts : List BTok), rowsF br.length all = allR → allR.length = all.len → ts.length ≤ toks.length →
      (match endR rows br first n allR ts with
        | .ok rows' br' r => refR f rows' br' r
        | .err e l c => .err e l c) = (match tailS rec br.length first n all ts with
        | .ok F r => refR f (rows ++ rowsF br.length F) br r
        | .err e l c => .err e l c) := by
    intro n all allR ts h1 h2 h3
    cases ts with
    | nil => rfl
    | cons t ts =>
      simp only [List.length_cons] at h3
      rw [endR, tailS, h2]
      by_cases k4 : t.k = 4
      · rw [if_pos k4, if_pos k4]
        by_cases h0 : all.len = 0
        · rw [if_pos h0, if_pos h0]
          simp [rowsF]
        · rw [if_neg h0, if_neg h0]
          show refR f (rows ++ allR) br ts = refR f (rows ++ rowsF br.length all) br ts
          rw [h1]
      · rw [if_neg k4, if_neg k4]
        by_cases k2 : t.k = 2 ∧ all.len = 0
        · rw [if_pos k2, if_pos k2]
          by_cases hd : br.length = 32
          · rw [if_pos (by omega), if_pos hd]
          · rw [if_neg (by omega), if_neg hd]
            have h := hrec (by omega) t.pos ts (rows ++ [⟨br.length, n.map BTok.b, n.map BTok.pos, true⟩]) (by omega)
            simp only
            rw [refR_fuel f (ts.length + 1) _ _ ts (by omega) (by omega)]
            cases hr : rec t.pos ts with
            | err e l c =>
              rw [hr] at h
              exact h
            | ok K r =>
              rw [hr] at h
              simp only at h ⊢
              rw [h.1, refR_fuel (ts.length + 1) f _ _ r (by omega) (by omega)]
              simp [rowsF, List.append_assoc]
        · rw [if_neg k2, if_neg k2]
  have hb := behind_le toks
  unfold oneR stmtF
  cases e : behindT toks with
  | nil => rfl
  | cons t ts =>
    rw [e] at hb
    simp only
    by_cases k5 : t.k = 5
    · rw [if_pos k5, if_pos k5]
      have hb2 := behind_le ts
      cases e2 : behindT ts with
      | nil => rfl
      | cons u us =>
        rw [e2] at hb2
        simp only
        by_cases k6 : u.k = 6 ∧ (wordsT ts).length ≠ 0
        · rw [if_pos k6, if_pos k6]
          exact key _ _ _ us (leafR_rows _ _ _) (by rw [leafR_len, leafs_len]) (by simp at hb hb2; omega)
        · rw [if_neg k6, if_neg k6]
    · rw [if_neg k5, if_neg k5]
      exact key _ _ _ (t :: ts) rfl rfl (by omega)
/-- a list: by its reading, and by the document's -/
theorem list_ref : ∀ (f : Nat) (op : Pl) (rows : List RowD) (br : List Pl) (toks : List BTok), toks.length < f → (br = [] ∨ ∃ b, br = op :: b) → br.length ≤ 32 →
    match listF f br.length op toks with
    | .err e l c => refR (toks.length + 1) rows br toks = .err e l c
    | .ok F r => (br = [] → r = [] ∧ refR (toks.length + 1) rows br toks = .ok (rows ++ rowsF br.length F) [] []) ∧ (br ≠ [] → r.length < toks.length ∧ refR (toks.length + 1) rows br toks = refR (toks.length + 1) (rows ++ rowsF br.length F) br.tail r) := by
  intro f
  induction f with
  | zero => intro op rows br toks h; omega
  | succ f ih =>
    intro op rows br toks h hop hbr
    cases toks with
    | nil =>
      unfold listF
      rcases hop with rfl | ⟨b, rfl⟩
      · simp [refR, rowsF]
      · simp [refR]
    | cons t ts =>
      simp only [List.length_cons] at h
      unfold listF
      by_cases k3 : t.k = 3
      · rw [if_pos k3]
        rcases hop with rfl | ⟨b, rfl⟩
        · simp [refR, k3]
        · simp only [List.length_cons, Nat.add_eq_zero_iff, Nat.succ_ne_self, and_false, if_false]
          refine ⟨fun h => absurd h (by simp), fun _ => ⟨by simp, ?_⟩⟩
          conv => lhs; unfold refR
          rw [if_neg (by rw [k3]; decide), if_pos ⟨k3, by simp⟩]
          simp only [rowsF, List.append_nil, List.tail_cons]
          exact refR_fuel _ _ _ _ _ (by omega) (by omega)
      · rw [if_neg k3]
        by_cases k1 : t.k = 1
        · rw [if_pos k1]
          have hs := stmt_ref (f := ts.length + 1) (rows := rows) (br := br) (first := t.pos) (toks := t :: ts) (rec := fun o r => listF f (br.length + 1) o r) (fun h32 o ts' rows' hl => by
            simp only [List.length_cons] at hl
            have := ih o rows' (o :: br) ts' (by omega) (.inr ⟨br, rfl⟩) (by simp; omega)
            simp only [List.length_cons] at this
            cases hq : listF f (br.length + 1) o ts' with
            | err e l c => rw [hq] at this; exact this
            | ok K r =>
              rw [hq] at this
              have := this.2 (by simp)
              exact ⟨this.2, this.1⟩) (by omega) (by simp)
          have hu : refR ((t :: ts).length + 1) rows br (t :: ts) = (match oneR rows br t.pos (t :: ts) with
              | .ok rows' br' r => refR (ts.length + 1) rows' br' r
              | .err e l c => .err e l c) := by
            conv => lhs; unfold refR
            rw [if_pos k1]
            rfl
          rw [hu, hs]
          cases hst : stmtF (fun o r => listF f (br.length + 1) o r) br.length t.pos (t :: ts) with
          | err e l c => rfl
          | ok F r =>
            have hlr := stmtF_rest (fun o ts K q h => listF_rest _ _ _ _ _ _ h) hst
            simp only [List.length_cons] at hlr
            have h2 := ih op (rows ++ rowsF br.length F) br r (by omega) hop hbr
            simp only
            cases hq : listF f br.length op r with
            | err e l c =>
              rw [hq] at h2
              simp only [putF]
              rw [refR_fuel (ts.length + 1) (r.length + 1) _ _ r (by omega) (by omega)]
              exact h2
            | ok G r' =>
              rw [hq] at h2
              simp only [putF]
              refine ⟨fun hb => ?_, fun hb => ?_⟩
              · have h3 := h2.1 hb
                refine ⟨h3.1, ?_⟩
                rw [refR_fuel (ts.length + 1) (r.length + 1) _ _ r (by omega) (by omega), h3.2, rowsF_app, List.append_assoc]
              · have h3 := h2.2 hb
                refine ⟨by simp; omega, ?_⟩
                rw [refR_fuel (ts.length + 1) (r.length + 1) _ _ r (by omega) (by omega), h3.2, rowsF_app, List.append_assoc]
                exact refR_fuel _ _ _ _ _ (by omega) (by simp; omega)
        · rw [if_neg k1]
          simp [refR, k1, k3]
end Go.Proofs.Ytihmmmodimionaa.Tr

/-
  The journal, plainly: steps on a disk, a file laid, a journal opened, an entry appended, a snapshot laid.
  The walks of the journal: steps ('all'), the closures of lay, mend and Append, a file laid.
  The walks of load and mend: a file's records read; what mends a disk.
-/
import Derived.Test.YtajclcbclbppiaaGreatZ06
import Derived.Test.YtajclcbclbppiaaGreatZ05
import Derived.Test.YtajclcbclbppiaaGreatZ10
import Derived.Deep.RegionHeld3
section
namespace Go.Jn
open Go.Dk Go.Rc
/-- Steps, up to the first error. -/
def runs : List (St → St × Int) → St → St × Int
  | [], S => (S, 0)
  | f :: r, S => if (f S).2 = 0 then runs r (f S).1 else f S
theorem runs_nil (S : St) : runs [] S = (S, 0) := rfl
theorem runs_cons (f : St → St × Int) (r : List (St → St × Int)) (S : St) : runs (f :: r) S = if (f S).2 = 0 then runs r (f S).1 else f S := rfl
theorem runs_ok {f : St → St × Int} {r : List (St → St × Int)} {S : St} (h : (f S).2 = 0) : runs (f :: r) S = runs r (f S).1 := if_pos h
theorem runs_no {f : St → St × Int} {r : List (St → St × Int)} {S : St} (h : (f S).2 ≠ 0) : runs (f :: r) S = f S := if_neg h
/-- A file with one record. -/
def lays (n : Int) (r : List UInt8) : List (St → St × Int) := [fun S => create S n, fun S => append S n r, fun S => sync S n]
/-- A journal: its file, what it has, the disk's starts when it was opened; is it over? -/
structure Jo where
  n : Int
  size : Int
  many : Int
  starts : Int
  dead : Bool
/-- The payloads of a text's records. -/
def pays (s : List UInt8) : List (List UInt8) := (itsAt s 0).map (·.1)
/-- The last file that has a record, of the first so many. -/
def pick : List Fl → Option Fl
  | [] => none
  | f :: r => match pick r with
    | some g => some g
    | none => if itsAt f.b 0 = [] then none else some f
/-- What mends a disk. -/
def mends (l : List Int) (n e z : Int) : List (St → St × Int) :=
  (if e < z then [fun S => truncate S n e] else []) ++ [fun S => sync S n] ++ (l.filter (fun k => decide (k ≠ n))).map (fun k S => delete S k)
/-- A journal where none is. -/
def fresh (S : St) : St × Int := runs ((if S.fs = [] then [] else [fun S => delete S 0]) ++ lays 0 (recL [])) S
/-- What an Open answers. -/
structure Op where
  S : St
  j : Option Jo
  snap : List UInt8
  l : List (List UInt8)
  e : Int
def open_ (S : St) : Op :=
  if S.down then ⟨S, none, [], [], 61⟩ else
    match pick S.fs with
    | some f =>
      let x := runs (mends (S.fs.map (·.n)) f.n (endOf (itsAt f.b 0)) f.b.length) S
      if x.2 = 0 then ⟨x.1, some ⟨f.n, endOf (itsAt f.b 0), (itsAt f.b 0).length - 1, x.1.starts, false⟩, (pays f.b).headD [], (pays f.b).tail, 0⟩ else ⟨x.1, none, [], [], x.2⟩
    | none =>
      if 1 < S.fs.length ∨ S.fs.length = 1 ∧ (S.fs.map (·.n)).headD 0 ≠ 0 then ⟨S, none, [], [], 63⟩ else
        let x := fresh S
        if x.2 = 0 then ⟨x.1, some ⟨0, 8, 0, x.1.starts, false⟩, [], [], 0⟩ else ⟨x.1, none, [], [], x.2⟩
/-- Is it over? -/
def over (S : St) (J : Jo) : Bool := J.dead || S.down || decide (S.starts ≠ J.starts)
def told (J : Jo) (e : Int) : Jo := { J with dead := J.dead || decide (e = 61) }
def appendJ (S : St) (J : Jo) (x : List UInt8) : St × Jo × Int :=
  if over S J then (S, { J with dead := true }, 61) else if 65536 < x.length then (S, J, 3) else if S.cap - tot S.fs - (x.length + 8) < 70000 then (S, J, 60) else
    let y := runs [fun S => append S J.n (recL x), fun S => sync S J.n] S
    (y.1, told (if y.2 = 0 then { J with size := J.size + (x.length + 8), many := J.many + 1 } else J) y.2, y.2)
def compactJ (S : St) (J : Jo) (x : List UInt8) : St × Jo × Int :=
  if over S J then (S, { J with dead := true }, 61) else if 65536 < x.length then (S, J, 3) else if S.cap - tot S.fs < x.length + 8 then (S, J, 60) else
    let y := runs (lays (J.n + 1) (recL x)) S
    if y.2 ≠ 0 then (y.1, told J y.2, y.2) else
      let z := delete y.1 J.n
      (z.1, told { J with n := J.n + 1, size := x.length + 8, many := 0 } z.2, z.2)
end Go.Jn
end
section
namespace Go.Jn
open Go.Dk
theorem runs_drop {fs : List (St → St × Int)} {k : Nat} {f : St → St × Int} (hf : fs[k]? = some f) (S : St) : runs (fs.drop k) S = if (f S).2 = 0 then runs (fs.drop (k + 1)) (f S).1 else f S := by
  obtain ⟨hk, rfl⟩ := List.getElem?_eq_some_iff.1 hf
  rw [List.drop_eq_getElem_cons hk]
  rfl
end Go.Jn
namespace Go.Proofs.YtajclcbclbppiaaGreat
open Go.RowKit Go.Maps Go.Dk Go.Rc Go.Jn Go.Shelf
variable {W w w' : World} {O O' : Nat → Prop} {p : Nat} {S S' : St}
theorem lit_row {w : World} {g : Nat} (vs : List Value) (n : Nat) (hn : vs.length = n) (hm : n ≤ 16777216) {t : TypeId} (hb : w.heap[g]? = some (.cells vs.toArray t)) : Rw w 1 (some ⟨g, 0, none⟩) n n vs := by
  subst hn
  have hg : g < w.heap.size := by
    rcases Nat.lt_or_ge g w.heap.size with h | h
    · exact h
    · rw [Array.getElem?_eq_none h] at hb; cases hb
  refine ⟨by rw [Nat.mul_one], Nat.le_refl _, by unfold maxLen; omega, .inr ⟨g, rfl, hg, fun j hj => ⟨?_, ?_⟩, fun j hj => ?_⟩⟩
  · rw [Nat.mul_one] at hj
    simp only [World.cell?, hb]; simp [List.getElem?_eq_getElem hj]
  · simp only [World.frozen?, hb]; simp
  · simp only [World.cell?, hb]; simp
/-- Back to what was there ahead. -/
theorem Dp.back (h : Dp W O p S w) {V : World} (hx : Ext w V) (h' : Dp V O' p S' w') (hO : ∀ k, O k → O' k) : Dp W O p S' w' := by
  obtain ⟨_, _, h3, _, h7⟩ := h
  obtain ⟨β, k1, k3, k4, _⟩ := h'
  exact ⟨β, k1, (h3.trans (Fr.of_ext (F := fun _ => False) hx) (fun _ _ hf => hf.elim)).trans k3 (fun _ _ hk ho => hk (hO _ ho)), fun k hk => k4 k (hO k hk), h7⟩
/-- O, and all that is new. -/
def New (O : Nat → Prop) (a b : World) : Nat → Prop := fun k => O k ∨ (a.heap.size ≤ k ∧ k < b.heap.size)
theorem Dp.news (h : Dp W O p S w) {V : World} (hx : Ext w V) : Dp V (New O w V) p S V := by
  have hu : Under O W := by obtain ⟨_, _, _, _, h⟩ := h; exact h
  have hs := h.fr.size
  refine h.base (fun k hk => ?_) hx (fun k hk => hk.imp (fun h => h) (fun h => h.1))
  rcases hk with hk | hk
  · have := hu k hk; have := hx.size; omega
  · exact hk.2
/-- What a closure does with the disk. -/
def StepAt (W : World) (O : Nat → Prop) (p : Nat) (v : Value) (f : St → St × Int) : Prop :=
  ∃ N lb, v = .func (.func N) #[] lb ∧ (∀ args w, (callFunc N args).run Tryz.prog w = .ok (.enter N args) w) ∧
    ∀ S w, Dp W O p S w → Calls Tryz.prog N lb w fun x w' => x = .returned (.int .i64 (f S).2) ∧ Dp W O p (f S).1 w'
def Steps (W : World) (O : Nat → Prop) (p : Nat) (vs : List Value) (fs : List (St → St × Int)) : Prop :=
  vs.length = fs.length ∧ ∀ (k : Nat) (v : Value) (f : St → St × Int), vs[k]? = some v → fs[k]? = some f → StepAt W O p v f
theorem Steps.nil (W : World) (O : Nat → Prop) (p : Nat) : Steps W O p [] [] := ⟨rfl, fun k v f h => by simp at h⟩
theorem Steps.cons {v : Value} {f : St → St × Int} {vs : List Value} {fs : List (St → St × Int)} (h : StepAt W O p v f) (hs : Steps W O p vs fs) : Steps W O p (v :: vs) (f :: fs) := by
  refine ⟨by simp [hs.1], fun k u g hu hg => ?_⟩
  cases k with
  | zero => simp at hu hg; subst hu; subst hg; exact h
  | succ k => exact hs.2 k u g (by simpa using hu) (by simpa using hg)
set_option maxHeartbeats 1000000 in
set_option maxRecDepth 100000 in
theorem all_is {vs : List Value} {fs : List (St → St × Int)} {ao : Option Addr} {n cap : Nat} (hs : Steps W O p vs fs) (hn : vs.length = n) (hr : Rw W 1 ao n cap vs) (hO : ∀ g, ob ao = some g → O g) (hm : n ≤ 16777216) (h : Dp W O p S w) {e : Int} (hx : runs fs S = (S', e)) :
    Calls Tryz.prog 48 #[.slice ao n cap] w fun x w' => x = .returned (.int .i64 e) ∧ Dp W O p S' w' := by
  have HS := Lib.hid hs
  have HR := Lib.hid hr
  have hfl := hs.1
  clear hs hr
  go_enter Tryz.func48, Tryz.ntmps48
  go_wp2
  go_loopw [8] (fun i wr => ∃ (k : Nat) (S1 : St), k ≤ n ∧ i = .int .i64 k ∧ Dp W O p S1 wr ∧ runs (fs.drop k) S1 = (S', e)) (fun i _ => n - (intOf i).toNat)
  case atStart => exact ⟨0, S, by omega, rfl, h, hx⟩
  case round =>
    obtain ⟨k, S1, hk, rfl, hD, hx1⟩ := hrel
    by_cases hlt : k < n
    · obtain ⟨g, rfl, hg, h1, h2⟩ := HR.out.row (by omega)
      have c0 := h1 k (by omega)
      obtain ⟨v, hv⟩ : ∃ v, vs[k]? = some v := ⟨_, List.getElem?_eq_getElem (by omega)⟩
      obtain ⟨f, hf⟩ : ∃ f, fs[k]? = some f := ⟨_, List.getElem?_eq_getElem (by omega)⟩
      rw [hv] at c0
      have c1 := (hD.fr.cell (p := ⟨g, k, none⟩) hg (fun hn => hn (hO g rfl))).trans c0
      obtain ⟨N, lb, rfl, eN, hC⟩ := HS.out.2 k v f hv hf
      have hC := hC S1 wr hD
      rw [runs_drop hf] at hx1
      obtain ⟨S2, e2, hfe⟩ : ∃ S2 e2, f S1 = (S2, e2) := ⟨_, _, rfl⟩
      rw [hfe] at hx1 hC
      have HC := Lib.hid hC
      clear hC h1 h2 c0 hD h hx
      by_cases he : e2 = 0
      · subst he
        rw [if_pos rfl] at hx1
        go_wp2_with (go_at_fn N; (refine HC.out.mono ?_); rintro x w1 ⟨rfl, hD1⟩; have HD1 := Lib.hid hD1; clear hD1)
        exact ⟨⟨k + 1, S2, by omega, by go_num, HD1.out, hx1⟩, by simp [intOf]; omega⟩
      · rw [if_neg he] at hx1
        obtain ⟨rfl, rfl⟩ := Prod.mk.inj hx1
        go_wp2_with (go_at_fn N; (refine HC.out.mono ?_); rintro x w1 ⟨rfl, hD1⟩; have HD1 := Lib.hid hD1; clear hD1)
        go_ret
        exact ⟨rfl, HD1.out⟩
    · obtain rfl : k = n := by omega
      rw [List.drop_of_length_le (by omega)] at hx1
      obtain ⟨rfl, rfl⟩ := Prod.mk.inj hx1
      have HD := Lib.hid hD
      clear hD
      go_wp2
      go_ret
      exact ⟨rfl, HD.out⟩
/-! ### the closures -/
section
variable {n e : Int} {s : List UInt8} {b c d q : Nat}
theorem Dp.box (h : Dp W O p S w) (hu : Under O W) (hb : O b) {i : Nat} {v : Value} (c0 : W.cell? ⟨b, i, none⟩ = some v) : w.cell? ⟨b, i, none⟩ = some v :=
  (h.fr.cell (p := ⟨b, i, none⟩) (hu b hb) (fun h => h hb)).trans c0
set_option maxRecDepth 100000 in
theorem lay1_step (hu : Under O W) (hb : O b) (hc : O c) (c0 : W.cell? ⟨b, 0, none⟩ = some (.pointer (some ⟨p, 0, none⟩))) (c1 : W.cell? ⟨c, 0, none⟩ = some (.int .i64 n)) (hn : (Lit.int .i64 n).wf = true) :
    StepAt W O p (.func (.func 76) #[] #[.pointer (some ⟨b, 0, none⟩), .pointer (some ⟨c, 0, none⟩)]) (fun S => create S n) := by
  refine ⟨_, _, rfl, enters_of Tryz.func76 (by kernel_rfl) rfl, fun S w hD => ?_⟩
  have d0 := hD.box hu hb c0
  have d1 := hD.box hu hc c1
  obtain ⟨S2, e2, hx⟩ : ∃ S2 e2, create S n = (S2, e2) := ⟨_, _, rfl⟩
  have C := Lib.hid (k_create hD hn hx)
  dsimp only
  rw [hx]
  clear hx hD c0 c1
  go_enter Tryz.func76, Tryz.ntmps76
  go_wp2_with (go_at_call 7; (with_reducible refine C.out.mono ?_); rintro x w1 ⟨rfl, hD1⟩; have HD1 := Lib.hid hD1; clear hD1)
  go_ret
  exact ⟨rfl, HD1.out⟩
set_option maxRecDepth 100000 in
theorem lay2_step (hu : Under O W) (hb : O b) (hc : O c) (hd : O d) (c0 : W.cell? ⟨b, 0, none⟩ = some (.pointer (some ⟨p, 0, none⟩))) (c1 : W.cell? ⟨c, 0, none⟩ = some (.int .i64 n)) (c2 : W.cell? ⟨d, 0, none⟩ = some (.string (ofL s))) (hn : (Lit.int .i64 n).wf = true) :
    StepAt W O p (.func (.func 77) #[] #[.pointer (some ⟨b, 0, none⟩), .pointer (some ⟨c, 0, none⟩), .pointer (some ⟨d, 0, none⟩)]) (fun S => append S n s) := by
  refine ⟨_, _, rfl, enters_of Tryz.func77 (by kernel_rfl) rfl, fun S w hD => ?_⟩
  have d0 := hD.box hu hb c0
  have d1 := hD.box hu hc c1
  have d2 := hD.box hu hd c2
  obtain ⟨S2, e2, hx⟩ : ∃ S2 e2, append S n s = (S2, e2) := ⟨_, _, rfl⟩
  have C := Lib.hid (k_append hD hn hx)
  dsimp only
  rw [hx]
  clear hx hD c0 c1 c2
  go_enter Tryz.func77, Tryz.ntmps77
  go_wp2_with (go_at_call 9; (with_reducible refine C.out.mono ?_); rintro x w1 ⟨rfl, hD1⟩; have HD1 := Lib.hid hD1; clear hD1)
  go_ret
  exact ⟨rfl, HD1.out⟩
set_option maxRecDepth 100000 in
theorem lay3_step (hu : Under O W) (hb : O b) (hc : O c) (c0 : W.cell? ⟨b, 0, none⟩ = some (.pointer (some ⟨p, 0, none⟩))) (c1 : W.cell? ⟨c, 0, none⟩ = some (.int .i64 n)) (hn : (Lit.int .i64 n).wf = true) :
    StepAt W O p (.func (.func 78) #[] #[.pointer (some ⟨b, 0, none⟩), .pointer (some ⟨c, 0, none⟩)]) (fun S => sync S n) := by
  refine ⟨_, _, rfl, enters_of Tryz.func78 (by kernel_rfl) rfl, fun S w hD => ?_⟩
  have d0 := hD.box hu hb c0
  have d1 := hD.box hu hc c1
  obtain ⟨S2, e2, hx⟩ : ∃ S2 e2, sync S n = (S2, e2) := ⟨_, _, rfl⟩
  have C := Lib.hid (k_sync hD hn hx)
  dsimp only
  rw [hx]
  clear hx hD c0 c1
  go_enter Tryz.func78, Tryz.ntmps78
  go_wp2_with (go_at_call 51; (with_reducible refine C.out.mono ?_); rintro x w1 ⟨rfl, hD1⟩; have HD1 := Lib.hid hD1; clear hD1)
  go_ret
  exact ⟨rfl, HD1.out⟩
set_option maxRecDepth 100000 in
theorem mend1_step (hu : Under O W) (hb : O b) (hc : O c) (hd : O d) (c0 : W.cell? ⟨b, 0, none⟩ = some (.pointer (some ⟨p, 0, none⟩))) (c1 : W.cell? ⟨c, 0, none⟩ = some (.int .i64 n)) (c2 : W.cell? ⟨d, 0, none⟩ = some (.int .i64 e)) (hn : (Lit.int .i64 n).wf = true) :
    StepAt W O p (.func (.func 66) #[] #[.pointer (some ⟨b, 0, none⟩), .pointer (some ⟨c, 0, none⟩), .pointer (some ⟨d, 0, none⟩)]) (fun S => truncate S n e) := by
  refine ⟨_, _, rfl, enters_of Tryz.func66 (by kernel_rfl) rfl, fun S w hD => ?_⟩
  have d0 := hD.box hu hb c0
  have d1 := hD.box hu hc c1
  have d2 := hD.box hu hd c2
  obtain ⟨S2, e2, hx⟩ : ∃ S2 e2, truncate S n e = (S2, e2) := ⟨_, _, rfl⟩
  have C := Lib.hid (k_truncate hD hn hx)
  dsimp only
  rw [hx]
  clear hx hD c0 c1 c2
  go_enter Tryz.func66, Tryz.ntmps66
  go_wp2_with (go_at_call 67; (with_reducible refine C.out.mono ?_); rintro x w1 ⟨rfl, hD1⟩; have HD1 := Lib.hid hD1; clear hD1)
  go_ret
  exact ⟨rfl, HD1.out⟩
set_option maxRecDepth 100000 in
theorem mend2_step (hu : Under O W) (hb : O b) (hc : O c) (c0 : W.cell? ⟨b, 0, none⟩ = some (.pointer (some ⟨p, 0, none⟩))) (c1 : W.cell? ⟨c, 0, none⟩ = some (.int .i64 n)) (hn : (Lit.int .i64 n).wf = true) :
    StepAt W O p (.func (.func 68) #[] #[.pointer (some ⟨b, 0, none⟩), .pointer (some ⟨c, 0, none⟩)]) (fun S => sync S n) := by
  refine ⟨_, _, rfl, enters_of Tryz.func68 (by kernel_rfl) rfl, fun S w hD => ?_⟩
  have d0 := hD.box hu hb c0
  have d1 := hD.box hu hc c1
  obtain ⟨S2, e2, hx⟩ : ∃ S2 e2, sync S n = (S2, e2) := ⟨_, _, rfl⟩
  have C := Lib.hid (k_sync hD hn hx)
  dsimp only
  rw [hx]
  clear hx hD c0 c1
  go_enter Tryz.func68, Tryz.ntmps68
  go_wp2_with (go_at_call 51; (with_reducible refine C.out.mono ?_); rintro x w1 ⟨rfl, hD1⟩; have HD1 := Lib.hid hD1; clear hD1)
  go_ret
  exact ⟨rfl, HD1.out⟩
set_option maxRecDepth 100000 in
theorem mend3_step (hu : Under O W) (hb : O b) (hc : O c) (c0 : W.cell? ⟨b, 0, none⟩ = some (.pointer (some ⟨p, 0, none⟩))) (c1 : W.cell? ⟨c, 0, none⟩ = some (.int .i64 n)) (hn : (Lit.int .i64 n).wf = true) :
    StepAt W O p (.func (.func 69) #[] #[.pointer (some ⟨b, 0, none⟩), .pointer (some ⟨c, 0, none⟩)]) (fun S => delete S n) := by
  refine ⟨_, _, rfl, enters_of Tryz.func69 (by kernel_rfl) rfl, fun S w hD => ?_⟩
  have d0 := hD.box hu hb c0
  have d1 := hD.box hu hc c1
  obtain ⟨S2, e2, hx⟩ : ∃ S2 e2, delete S n = (S2, e2) := ⟨_, _, rfl⟩
  have C := Lib.hid (k_delete hD hn hx)
  dsimp only
  rw [hx]
  clear hx hD c0 c1
  go_enter Tryz.func69, Tryz.ntmps69
  go_wp2_with (go_at_call 57; (with_reducible refine C.out.mono ?_); rintro x w1 ⟨rfl, hD1⟩; have HD1 := Lib.hid hD1; clear hD1)
  go_ret
  exact ⟨rfl, HD1.out⟩
set_option maxHeartbeats 1000000 in
set_option maxRecDepth 100000 in
theorem japp1_step (hu : Under O W) (hb : O b) (hc : O c) (hq : O q) (c0 : W.cell? ⟨b, 0, none⟩ = some (.pointer (some ⟨q, 0, none⟩))) (c1 : W.cell? ⟨c, 0, none⟩ = some (.string (ofL s))) (q0 : W.cell? ⟨q, 0, none⟩ = some (.pointer (some ⟨p, 0, none⟩))) (q1 : W.cell? ⟨q, 1, none⟩ = some (.int .i64 n)) (hn : (Lit.int .i64 n).wf = true) :
    StepAt W O p (.func (.func 49) #[] #[.pointer (some ⟨b, 0, none⟩), .pointer (some ⟨c, 0, none⟩)]) (fun S => append S n s) := by
  refine ⟨_, _, rfl, enters_of Tryz.func49 (by kernel_rfl) rfl, fun S w hD => ?_⟩
  have hF := hD.fr
  have d0 : ∀ w2, Fr (fun k => ¬ O k) W w2 → w2.cell? ⟨b, 0, none⟩ = some (.pointer (some ⟨q, 0, none⟩)) := fun w2 h => (h.cell (p := ⟨b, 0, none⟩) (hu b hb) (fun h => h hb)).trans c0
  have d1 : ∀ w2, Fr (fun k => ¬ O k) W w2 → w2.cell? ⟨c, 0, none⟩ = some (.string (ofL s)) := fun w2 h => (h.cell (p := ⟨c, 0, none⟩) (hu c hc) (fun h => h hc)).trans c1
  have d2 : ∀ w2, Fr (fun k => ¬ O k) W w2 → w2.cell? ⟨q, 0, none⟩ = some (.pointer (some ⟨p, 0, none⟩)) := fun w2 h => (h.cell (p := ⟨q, 0, none⟩) (hu q hq) (fun h => h hq)).trans q0
  have d3 : ∀ w2, Fr (fun k => ¬ O k) W w2 → w2.cell? ⟨q, 1, none⟩ = some (.int .i64 n) := fun w2 h => (h.cell (p := ⟨q, 1, none⟩) (hu q hq) (fun h => h hq)).trans q1
  obtain ⟨S2, e2, hx⟩ : ∃ S2 e2, append S n s = (S2, e2) := ⟨_, _, rfl⟩
  have C := Lib.hid (k_append (hD.ext (Ext.refl _).drew) hn hx)
  dsimp only
  rw [hx]
  clear hx hD c0 c1 q0 q1
  go_enter Tryz.func49, Tryz.ntmps49
  go_wp2_with fail
  go_region_held3 (fun w' => Fr (fun k => ¬ O k) W w') (first | exact Fr.drew hF | assumption) (first | (go_at_call 9; (with_reducible refine C.out.mono ?_); rintro x w1 ⟨rfl, hD1⟩; have hF1 := hD1.fr; have HD1 := Lib.hid hD1; clear hD1))
  all_goals
    go_wp2
    go_ret
    exact ⟨rfl, HD1.out⟩
set_option maxHeartbeats 1000000 in
set_option maxRecDepth 100000 in
theorem japp2_step (hu : Under O W) (hb : O b) (hq : O q) (c0 : W.cell? ⟨b, 0, none⟩ = some (.pointer (some ⟨q, 0, none⟩))) (q0 : W.cell? ⟨q, 0, none⟩ = some (.pointer (some ⟨p, 0, none⟩))) (q1 : W.cell? ⟨q, 1, none⟩ = some (.int .i64 n)) (hn : (Lit.int .i64 n).wf = true) :
    StepAt W O p (.func (.func 50) #[] #[.pointer (some ⟨b, 0, none⟩)]) (fun S => sync S n) := by
  refine ⟨_, _, rfl, enters_of Tryz.func50 (by kernel_rfl) rfl, fun S w hD => ?_⟩
  have hF := hD.fr
  have d0 : ∀ w2, Fr (fun k => ¬ O k) W w2 → w2.cell? ⟨b, 0, none⟩ = some (.pointer (some ⟨q, 0, none⟩)) := fun w2 h => (h.cell (p := ⟨b, 0, none⟩) (hu b hb) (fun h => h hb)).trans c0
  have d2 : ∀ w2, Fr (fun k => ¬ O k) W w2 → w2.cell? ⟨q, 0, none⟩ = some (.pointer (some ⟨p, 0, none⟩)) := fun w2 h => (h.cell (p := ⟨q, 0, none⟩) (hu q hq) (fun h => h hq)).trans q0
  have d3 : ∀ w2, Fr (fun k => ¬ O k) W w2 → w2.cell? ⟨q, 1, none⟩ = some (.int .i64 n) := fun w2 h => (h.cell (p := ⟨q, 1, none⟩) (hu q hq) (fun h => h hq)).trans q1
  obtain ⟨S2, e2, hx⟩ : ∃ S2 e2, sync S n = (S2, e2) := ⟨_, _, rfl⟩
  have C := Lib.hid (k_sync (hD.ext (Ext.refl _).drew) hn hx)
  dsimp only
  rw [hx]
  clear hx hD c0 q0 q1
  go_enter Tryz.func50, Tryz.ntmps50
  go_wp2_with fail
  go_region_held3 (fun w' => Fr (fun k => ¬ O k) W w') (first | exact Fr.drew hF | assumption) (first | (go_at_call 51; (with_reducible refine C.out.mono ?_); rintro x w1 ⟨rfl, hD1⟩; have hF1 := hD1.fr; have HD1 := Lib.hid hD1; clear hD1))
  all_goals
    go_wp2
    go_ret
    exact ⟨rfl, HD1.out⟩
/-! ### a file laid -/
set_option maxHeartbeats 1000000 in
set_option maxRecDepth 100000 in
theorem lay_is (h : Dp W O p S w) (hn : (Lit.int .i64 n).wf = true) (hx : runs (lays n s) S = (S', e)) :
    Calls Tryz.prog 56 #[.pointer (some ⟨p, 0, none⟩), .int .i64 n, .string (ofL s)] w fun x w' => x = .returned (.int .i64 e) ∧ Dp W O p S' w' := by
  have H := Lib.hid h
  obtain ⟨V3, hV3⟩ : ∃ V3, V3 = ((w.alloc (.cells #[.pointer (some ⟨p, 0, none⟩)] 24)).alloc (.cells #[.int .i64 n] 3)).alloc (.cells #[.string (ofL s)] 9) := ⟨_, rfl⟩
  obtain ⟨V, hV⟩ : ∃ V, V = (V3.alloc (.cells #[.func (.func 76) #[] #[.pointer (some ⟨w.heap.size, 0, none⟩), .pointer (some ⟨w.heap.size + 1, 0, none⟩)], .func (.func 77) #[] #[.pointer (some ⟨w.heap.size, 0, none⟩), .pointer (some ⟨w.heap.size + 1, 0, none⟩), .pointer (some ⟨w.heap.size + 2, 0, none⟩)], .func (.func 78) #[] #[.pointer (some ⟨w.heap.size, 0, none⟩), .pointer (some ⟨w.heap.size + 1, 0, none⟩)]] 67)) := ⟨_, rfl⟩
  have hE : Ext w V := by rw [hV, hV3]; exact ((((Ext.refl w).alloc _).alloc _).alloc _).alloc _
  have hs3 : V3.heap.size = w.heap.size + 3 := by rw [hV3]; simp
  have hsz : V.heap.size = w.heap.size + 4 := by rw [hV, World.size_alloc, hs3]
  have e0 : V.cell? ⟨w.heap.size, 0, none⟩ = some (.pointer (some ⟨p, 0, none⟩)) := by rw [hV, World.cell?_alloc_past _ _ _ (by omega), hV3, World.cell?_alloc_past _ _ _ (by simp only [World.size_alloc]; omega), World.cell?_alloc_past _ _ _ (by simp only [World.size_alloc]; omega)]; exact World.cell?_alloc_at _ _ _ _ rfl
  have e1 : V.cell? ⟨w.heap.size + 1, 0, none⟩ = some (.int .i64 n) := by rw [hV, World.cell?_alloc_past _ _ _ (by omega), hV3, World.cell?_alloc_past _ _ _ (by simp only [World.size_alloc]; omega)]; exact World.cell?_alloc_at _ _ _ _ (by simp only [World.size_alloc])
  have e2 : V.cell? ⟨w.heap.size + 2, 0, none⟩ = some (.string (ofL s)) := by rw [hV, World.cell?_alloc_past _ _ _ (by omega), hV3]; exact World.cell?_alloc_at _ _ _ _ (by simp only [World.size_alloc])
  have hD := h.news hE
  have hU : Under (New O w V) V := by obtain ⟨_, _, _, _, h⟩ := hD; exact h
  have h0 : New O w V w.heap.size := .inr ⟨by omega, by omega⟩
  have h1 : New O w V (w.heap.size + 1) := .inr ⟨by omega, by omega⟩
  have h2 : New O w V (w.heap.size + 2) := .inr ⟨by omega, by omega⟩
  have h3 : New O w V (w.heap.size + 3) := .inr ⟨by omega, by omega⟩
  have s1 := lay1_step (n := n) hU h0 h1 (p := p) e0 e1 hn
  have s2 := lay2_step (n := n) (s := s) hU h0 h1 h2 (p := p) e0 e1 e2 hn
  have s3 := lay3_step (n := n) hU h0 h1 (p := p) e0 e1 hn
  have A := Lib.hid (all_is (ao := some ⟨w.heap.size + 3, 0, none⟩) (n := 3) (cap := 3) (Steps.cons s1 (Steps.cons s2 (Steps.cons s3 (Steps.nil V (New O w V) p)))) rfl (lit_row (t := 67) _ 3 rfl (by omega) (by rw [hV, ← hs3]; exact heap_alloc_new _ _)) (fun g hg => by cases hg; exact h3) (by omega) hD hx)
  clear s1 s2 s3 hD h hx hs3 e0 e1 e2
  subst hV
  subst hV3
  go_enter Tryz.func56, Tryz.ntmps56
  go_wp2_with (go_at_call 48; (with_reducible refine A.out.mono ?_); rintro x w1 ⟨rfl, hD1⟩; have HD1 := Lib.hid hD1; clear hD1)
  go_ret
  exact ⟨rfl, H.out.back hE HD1.out (fun k hk => .inl hk)⟩
end
end Go.Proofs.YtajclcbclbppiaaGreat
end
section
namespace Go.Proofs.YtajclcbclbppiaaGreat
open Go.RowKit Go.Maps Go.Dk Go.Rc Go.Jn Go.Shelf
variable {W w w' : World} {O O' B B' : Nat → Prop} {p : Nat} {S S' : St} {n e z : Int}
theorem wf_of {n : Int} (h : 0 ≤ n ∧ n ≤ 9223372036854775807) : (Lit.int .i64 n).wf = true := by
  have e : IntKind.i64.min = -9223372036854775808 := rfl
  simp [Lit.wf, e]
  omega
theorem whole_new (s : List UInt8) (hs : s.length ≤ 16770000) (w : World) :
    Calls Tryz.prog 65 #[.string (ofL s)] w fun e W' => ∃ ao cap, e = .returned (.tuple #[.slice ao (itsAt s 0).length cap, .int .i64 (endOf (itsAt s 0))]) ∧
      Rw W' 1 ao (itsAt s 0).length cap (Se ((itsAt s 0).map (·.1))) ∧ Ext w W' ∧ ∀ g, ob ao = some g → w.heap.size ≤ g := by
  refine (callsIn_wide (n := 3)).1 ((whole_in 3 (Nat.le_refl _) s hs w).mono ?_)
  rintro e W' ⟨v, rfl, hr, hb⟩
  rcases hr.2 with ⟨rfl, hn⟩ | ⟨g, cap, cur, rfl, hg, _⟩
  · have hl := hr.1
    rw [hn] at hl ⊢
    have hnil : Se ((itsAt s 0).map (·.1)) = [] := List.length_eq_zero_iff.1 (by simpa using hl)
    exact ⟨none, 0, rfl, by rw [hnil]; exact Rw.nil W' 1, hb, fun g hg => by cases hg⟩
  · exact ⟨_, cap, rfl, Rw.owns hr, hb, fun k hk => by
      obtain rfl : g = k := by simpa [ob] using hk
      omega⟩
set_option maxHeartbeats 1000000 in
set_option maxRecDepth 100000 in
theorem load_is (h : Dp W O p S w) (hd : S.down = false) {f : Fl} (hf : f ∈ S.fs) :
    Calls Tryz.prog 35 #[.pointer (some ⟨p, 0, none⟩), .int .i64 f.n] w fun x w' => ∃ ao cap, x = .returned (.tuple #[.slice ao (itsAt f.b 0).length cap, .int .i64 (endOf (itsAt f.b 0)), .int .i64 f.b.length]) ∧ Rw w' 1 ao (itsAt f.b 0).length cap (Se (pays f.b)) ∧ Ext w w' ∧ ∀ g, ob ao = some g → w.heap.size ≤ g := by
  have hg := get_of_mem h.ok.rise hf
  have hn := wf_of (h.ok.names f hf)
  have hl : f.b.length ≤ 1048576 := by have := tot_mem hf; have := h.ok.tot; have := h.ok.cap1; omega
  have K1 := Lib.hid (k_size h hn (z := f.b.length) (e := 0) (by simp [Dk.size, hd, hg]))
  have K2 := Lib.hid (k_read h hn (a := 0) (z := f.b.length) (l := f.b) (e := 0) (by simp [Dk.read, hd, hg]))
  have K3 := Lib.hid (fun w' => whole_new f.b (by omega) w')
  have hE := Ext.refl w
  clear h
  go_enter Tryz.func35, Tryz.ntmps35
  go_wp2_with (first | (go_at_call 33; (with_reducible refine K1.out.mono ?_); rintro x w1 ⟨rfl, rfl⟩) | (go_at_call 45; (with_reducible refine K2.out.mono ?_); rintro x w2 ⟨rfl, hx2⟩) | (go_at_call 65; (with_reducible refine (K3.out _).mono ?_); rintro x w3 ⟨ao, cap, rfl, hr, hx3, hnw⟩; have HR := Lib.hid hr; have HN := Lib.hid hnw; clear hr hnw))
  go_ret3
  exact ⟨ao, cap, rfl, HR.out, hx2.trans hx3, fun g hg => Nat.le_trans hx2.size (HN.out g hg)⟩
/-! ### closures, gathered -/
/-- A closure, whose boxes lie in B. -/
def Pre (w : World) (B : Nat → Prop) (p : Nat) (v : Value) (f : St → St × Int) : Prop :=
  v.oneCell' = true ∧ ∀ W O, Under O W → (∀ k, B k → O k) → (∀ k, B k → W.heap[k]? = w.heap[k]?) → StepAt W O p v f
def Pres (w : World) (B : Nat → Prop) (p : Nat) (vs : List Value) (fs : List (St → St × Int)) : Prop :=
  vs.length = fs.length ∧ ∀ (k : Nat) (v : Value) (f : St → St × Int), vs[k]? = some v → fs[k]? = some f → Pre w B p v f
theorem Pre.mono {v : Value} {f : St → St × Int} (h : Pre w B p v f) (hB : ∀ k, B k → B' k) (hw : ∀ k, B k → w'.heap[k]? = w.heap[k]?) : Pre w' B' p v f :=
  ⟨h.1, fun W O hu hO hk => h.2 W O hu (fun k hb => hO k (hB k hb)) (fun k hb => (hk k (hB k hb)).trans (hw k hb))⟩
theorem Pres.nil (w : World) (B : Nat → Prop) (p : Nat) : Pres w B p [] [] := ⟨rfl, fun k v f h => by simp at h⟩
theorem Pres.mono {vs : List Value} {fs : List (St → St × Int)} (h : Pres w B p vs fs) (hB : ∀ k, B k → B' k) (hw : ∀ k, B k → w'.heap[k]? = w.heap[k]?) : Pres w' B' p vs fs :=
  ⟨h.1, fun k v f hv hf => (h.2 k v f hv hf).mono hB hw⟩
theorem Pres.snoc {vs : List Value} {fs : List (St → St × Int)} {v : Value} {f : St → St × Int} (h : Pres w B p vs fs) (hv : Pre w B p v f) : Pres w B p (vs ++ [v]) (fs ++ [f]) := by
  refine ⟨by simp [h.1], fun k u g hu hg => ?_⟩
  have hl := h.1
  rcases Nat.lt_trichotomy k vs.length with hk | hk | hk
  · rw [List.getElem?_append_left hk] at hu
    rw [List.getElem?_append_left (by omega)] at hg
    exact h.2 k u g hu hg
  · subst hk
    rw [List.getElem?_append_right (Nat.le_refl _)] at hu
    rw [hl, List.getElem?_append_right (Nat.le_refl _)] at hg
    simp at hu hg
    subst hu; subst hg
    exact hv
  · rw [List.getElem?_eq_none (by simp; omega)] at hu
    cases hu
theorem Pres.steps {vs : List Value} {fs : List (St → St × Int)} (h : Pres w B p vs fs) (hu : Under O w) (hO : ∀ k, B k → O k) : Steps w O p vs fs :=
  ⟨h.1, fun k v f hv hf => (h.2 k v f hv hf).2 w O hu hO (fun _ _ => rfl)⟩
theorem Pres.one {vs : List Value} {fs : List (St → St × Int)} (h : Pres w B p vs fs) : ∀ u ∈ vs, u.oneCell' = true := by
  intro u hu
  obtain ⟨k, hk⟩ := List.mem_iff_getElem?.1 hu
  have := (List.getElem?_eq_some_iff.1 hk).1
  exact (h.2 k u _ hk (List.getElem?_eq_getElem (by have := h.1; omega))).1
section
variable {b c d : Nat}
theorem cell_kept {W w : World} {b i : Nat} {v : Value} (h : W.heap[b]? = w.heap[b]?) (c0 : w.cell? ⟨b, i, none⟩ = some v) : W.cell? ⟨b, i, none⟩ = some v := (World.cell?_of_block (a := ⟨b, i, none⟩) h).trans c0
theorem mend1_pre (hb : B b) (hc : B c) (hd : B d) (c0 : w.cell? ⟨b, 0, none⟩ = some (.pointer (some ⟨p, 0, none⟩))) (c1 : w.cell? ⟨c, 0, none⟩ = some (.int .i64 n)) (c2 : w.cell? ⟨d, 0, none⟩ = some (.int .i64 e)) (hn : (Lit.int .i64 n).wf = true) :
    Pre w B p (.func (.func 66) #[] #[.pointer (some ⟨b, 0, none⟩), .pointer (some ⟨c, 0, none⟩), .pointer (some ⟨d, 0, none⟩)]) (fun S => truncate S n e) :=
  ⟨rfl, fun _ _ hu hO hk => mend1_step hu (hO b hb) (hO c hc) (hO d hd) (cell_kept (hk b hb) c0) (cell_kept (hk c hc) c1) (cell_kept (hk d hd) c2) hn⟩
theorem mend2_pre (hb : B b) (hc : B c) (c0 : w.cell? ⟨b, 0, none⟩ = some (.pointer (some ⟨p, 0, none⟩))) (c1 : w.cell? ⟨c, 0, none⟩ = some (.int .i64 n)) (hn : (Lit.int .i64 n).wf = true) :
    Pre w B p (.func (.func 68) #[] #[.pointer (some ⟨b, 0, none⟩), .pointer (some ⟨c, 0, none⟩)]) (fun S => sync S n) :=
  ⟨rfl, fun _ _ hu hO hk => mend2_step hu (hO b hb) (hO c hc) (cell_kept (hk b hb) c0) (cell_kept (hk c hc) c1) hn⟩
theorem mend3_pre (hb : B b) (hc : B c) (c0 : w.cell? ⟨b, 0, none⟩ = some (.pointer (some ⟨p, 0, none⟩))) (c1 : w.cell? ⟨c, 0, none⟩ = some (.int .i64 n)) (hn : (Lit.int .i64 n).wf = true) :
    Pre w B p (.func (.func 69) #[] #[.pointer (some ⟨b, 0, none⟩), .pointer (some ⟨c, 0, none⟩)]) (fun S => delete S n) :=
  ⟨rfl, fun _ _ hu hO hk => mend3_step hu (hO b hb) (hO c hc) (cell_kept (hk b hb) c0) (cell_kept (hk c hc) c1) hn⟩
end
theorem infoFn : (Tryz.prog.info? 67).map (fun i => (i.zero, i.size, i.bytes)) = some (some .nilFunc, 1, 8) := by kernel_rfl
theorem append_fn {w : World} {ao : Option Addr} {n cap : Nat} {vs : List Value} (h : Rw w 1 ao n cap vs) {x : Value} (y : Value) (hs : Src Tryz.prog 1 101 x 1 [y] w) (hl : n + 1 ≤ 16777216) (ty : TypeId) :
    ∃ ao' cap' w', (Builtin.append_ #[101, 101] ty #[.slice ao n cap, x]).run Tryz.prog w = .ok (.slice ao' (n + 1) cap') w' ∧
      (Rw w' 1 ao' (n + 1) cap' (vs ++ [y]) ∧ Fr (fun k => ob ao = some k) w w' ∧ (ao' = ao ∨ ∃ g, ao' = some ⟨g, 0, none⟩ ∧ w.heap.size ≤ g)) := by
  obtain ⟨ti, hti, hz, hsz, hby⟩ := info_parts infoFn
  exact h.append 101 101 ty 67 ti _ 8 Tryz.underlying101 hti hz hsz hby rfl x 1 _ hs (by unfold maxLen; omega) (by omega)
theorem new_fn (W : World) (y : Value) (hy : y.oneCell' = true) (g : Nat) (hg : g = W.heap.size) : Src Tryz.prog 1 101 (.slice (some ⟨g, 0, none⟩) 1 1) 1 [y] (W.alloc (.cells #[y] 67)) := by
  subst hg
  have hb := heap_alloc_new W (.cells #[y] 67)
  refine Src.ofSlice _ (e' := 67) Tryz.underlying101 _ 1 1 _ (by simp) (fun j u hj => ?_) (fun u hu => by simp at hu; subst hu; exact hy)
  have : (⟨W.heap.size, 0, none⟩ : Addr).add j = ⟨W.heap.size, j, none⟩ := by unfold Addr.add; split <;> simp_all
  rw [this]
  simp only [World.cell?, hb]
  simpa using hj
/-! ### mend -/
/-- Closures gathered since w: their boxes, the row that holds them. -/
structure Gath (w wr : World) (p : Nat) (n : Int) (B : Nat → Prop) (ao : Option Addr) (cap : Nat) (vs : List Value) (fs : List (St → St × Int)) : Prop where
  row : Rw wr 1 ao vs.length cap vs
  pres : Pres wr B p vs fs
  low : ∀ k, B k → w.heap.size ≤ k ∧ k < wr.heap.size
  own : ∀ g, ob ao = some g → w.heap.size ≤ g ∧ ¬ B g
  ext : Ext w wr
  b0 : B w.heap.size
  b1 : B (w.heap.size + 1)
  c0 : wr.cell? ⟨w.heap.size, 0, none⟩ = some (.pointer (some ⟨p, 0, none⟩))
  c1 : wr.cell? ⟨w.heap.size + 1, 0, none⟩ = some (.int .i64 n)
section
variable {wr w2 : World} {ao : Option Addr} {cap : Nat} {vs : List Value} {fs : List (St → St × Int)}
theorem Gath.grow (h : Gath w wr p n B ao cap vs fs) (hx : Ext wr w2) : Gath w w2 p n B ao cap vs fs :=
  ⟨h.row.ext hx, h.pres.mono (fun _ hb => hb) (fun k hb => Below.block hx k (h.low k hb).2), fun k hb => ⟨(h.low k hb).1, Nat.lt_of_lt_of_le (h.low k hb).2 hx.size⟩, h.own, h.ext.trans hx, h.b0, h.b1,
    (hx.cell (p := ⟨w.heap.size, 0, none⟩) (h.low _ h.b0).2).trans h.c0, (hx.cell (p := ⟨w.heap.size + 1, 0, none⟩) (h.low _ h.b1).2).trans h.c1⟩
/-- A box more. -/
theorem Gath.box (h : Gath w wr p n B ao cap vs fs) (hx : Ext wr w2) {b : Nat} (hb : wr.heap.size ≤ b) (hb2 : b < w2.heap.size) : Gath w w2 p n (fun k => B k ∨ k = b) ao cap vs fs := by
  have h2 := h.grow hx
  exact ⟨h2.row, h2.pres.mono (fun _ hb => .inl hb) (fun _ _ => rfl), fun k hk => hk.elim (fun hk => h2.low k hk) (fun e => ⟨by have := h.ext.size; omega, by omega⟩),
    fun g hg => ⟨(h.own g hg).1, fun hk => hk.elim (h.own g hg).2 (fun e => by have := h.row.lt g hg; omega)⟩, h2.ext, .inl h2.b0, .inl h2.b1, h2.c0, h2.c1⟩
/-- A closure more. -/
theorem Gath.app (h : Gath w wr p n B ao cap vs fs) (hx : Ext wr w2) {v : Value} {f : St → St × Int} (hv : Pre w2 B p v f) {ao' : Option Addr} {cap' : Nat} {w4 : World} (hr : Rw w4 1 ao' (vs.length + 1) cap' (vs ++ [v])) (hf : Fr (fun k => ob ao = some k) w2 w4) (ha : ao' = ao ∨ ∃ g, ao' = some ⟨g, 0, none⟩ ∧ w2.heap.size ≤ g) :
    Gath w w4 p n B ao' cap' (vs ++ [v]) (fs ++ [f]) := by
  have h2 := h.grow hx
  have hk : ∀ k, B k → w4.heap[k]? = w2.heap[k]? := fun k hb => hf.block k (h2.low k hb).2 (fun e => (h2.own k e).2 hb)
  refine ⟨by rw [List.length_append]; exact hr, (h2.pres.snoc hv).mono (fun _ hb => hb) hk, fun k hb => ⟨(h2.low k hb).1, Nat.lt_of_lt_of_le (h2.low k hb).2 hf.size⟩, fun g hg => ?_, hf.grownFrom h2.ext (fun k e => (h2.own k e).1), h2.b0, h2.b1, cell_kept (hk _ h2.b0) h2.c0, cell_kept (hk _ h2.b1) h2.c1⟩
  rcases ha with rfl | ⟨j, rfl, hj⟩
  · exact h2.own g hg
  · obtain rfl : j = g := by simpa [ob] using hg
    exact ⟨by have := h2.ext.size; omega, fun hb => by have := (h2.low j hb).2; omega⟩
end
end Go.Proofs.YtajclcbclbppiaaGreat
end

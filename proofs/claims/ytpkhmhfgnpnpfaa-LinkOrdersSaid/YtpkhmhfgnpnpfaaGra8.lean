/- Package link: Add, Links, Order, Grow. -/
import Derived.Test.YtpkhmhfgnpnpfaaGra7
import Derived.Maps.AppendAt
namespace Go.Proofs.Ytpkhmhfgnpnpfaa
set_option linter.unusedSimpArgs false
set_option linter.unusedVariables false
open Go.RowKit
attribute [local go_sem] objAt_alloc objAt_alloc_at objAt_drew objAt_drewN objAt_setCell comesTo_value comesTo_enter

theorem tryG_zero {G : Gra} {l : List PLink} (h : tryG G l = 0) : G.ls.length + l.length ≤ 120 ∧ (∀ x ∈ l, linkIn G.c x) ∧ (∀ x ∈ l, ¬ badLink x) ∧ ¬ circleG G l := by
  unfold tryG at h
  split at h
  · cases h
  · split at h
    · cases h
    · split at h
      · cases h
      · split at h
        · cases h
        · rename_i h1 h2 h3 h4
          exact ⟨by omega, fun x hx => Classical.byContradiction fun hn => h2 ⟨x, hx, hn⟩, fun x hx hb => h3 ⟨x, hx, hb⟩, h4⟩
theorem addG_ok {G : Gra} (h : OkG G) (l : List PLink) : OkG (addG G l) := by
  unfold addG
  split
  · rename_i h0
    obtain ⟨h1, h2, h3, _⟩ := tryG_zero h0
    refine ⟨withC_ok h.ok h2, ?_, ?_, fun x hx => ?_, fun x hx => ?_⟩
    · show (withC G.c l).n ≤ 1000
      rw [withC_n]; exact h.small
    · show (G.ls ++ l).length ≤ 120
      rw [List.length_append]; exact h1
    · show linkIn (withC G.c l) x
      have : linkIn G.c x := by
        rcases List.mem_append.1 hx with hx | hx
        · exact h.inn x hx
        · exact h2 x hx
      unfold linkIn at this ⊢
      rwa [withC_n]
    · rcases List.mem_append.1 hx with hx | hx
      · exact h.good x hx
      · exact h3 x hx
  · exact h
theorem addG_same {G : Gra} {l : List PLink} (h : tryG G l ≠ 0) : addG G l = G := by unfold addG; rw [if_neg h]

/-- A spread append, and where the new slice lies. -/
theorem wpList_append_cells_at {P : Program} {w : World} {ops : Array Oper} {rest : List Oper} {o : Oper} {a : Act} {Q : Exit → Act → World → Prop} (hgd : o.guard = none) (s x : Operand) (ts te : TypeId)
    (ho : o.op = .call { callee := .builtin .append, args := #[s, x], argTypes := #[ts, ts] })
    (base : Nat) (j0 : TypeInfo) (z : Value) (size bytes : Nat) (ht : P.underlying ts = some (.slice te)) (hi : P.info? te = some j0) (hz : j0.zero = some z) (hsize : j0.size = size) (hby : j0.bytes = bytes) (hzs : z.cells.size = size) (hsz : 0 < size)
    (v : Value) (n : Nat) (xs : List Value) (hs : a.eval s = v) (hown : w.ownsRow base te size v n xs)
    (ad : Option Addr) (m c : Nat) (news : List Value) (hx : a.eval x = .slice ad m c) (hl : news.length = m * size) (hnone : ad = none → m = 0 ∧ c = 0) (hn : CellsIn w ad news) (h1 : ∀ u ∈ news, u.oneCell' = true)
    (h63 : n + m ≤ maxLen) (hbytes : (n + m) * bytes ≤ 140737488355328) (hbase : base ≤ w.heap.size)
    (h : ∀ v' w', w'.ownsRow base te size v' (n + m) (xs ++ news) → w.grownBy w' v.ownBlock → (v'.ownBlock = v.ownBlock ∨ v'.ownBlock = some w.heap.size) → wpList P ops Q rest (a.put o.dst v') w') : wpList P ops Q (o :: rest) a w := by
  refine wpList_plain hgd fun K hK => ?_
  cases ad with
  | none =>
    obtain ⟨rfl, rfl⟩ := hnone rfl
    obtain rfl : news = [] := List.eq_nil_of_length_eq_zero (by omega)
    have hrun := run_append_owned_none (P := P) (w := w) base ts o.type te j0 size ht hi v n _ hown
    unfold Oper.wp execOp
    simp only [ho, resolve, invoke, builtin, Sem.run_bind, Sem.run_pure, Result.andThen_ok, List.map_toArray, List.map_cons, List.map_nil, hs, hx, hrun]
    exact hK _ _ (h v w (by simpa using hown) (World.grownBy.refl _ _) (.inl rfl))
  | some y =>
    obtain ⟨v', w', hr, h2, h3, _, h5⟩ := run_append_own_at (P := P) w base ts o.type te j0 z size bytes ht hi hz hsize hby hzs hsz v n xs hown y m c news hl (fun j u hj => by
      obtain ⟨b, off, e, hc⟩ := hn j u hj
      obtain rfl : y = ⟨b, off, none⟩ := by simpa using e
      rw [Addr.add_lit]
      exact hc) h1 h63 hbytes hbase
    unfold Oper.wp execOp
    simp only [ho, resolve, invoke, builtin, Sem.run_bind, Sem.run_pure, Result.andThen_ok, List.map_toArray, List.map_cons, List.map_nil, hs, hx, hr]
    exact hK _ _ (h v' w' h2 h3 h5)
theorem own_form {w : World} {base : Nat} {e : TypeId} {size n : Nat} {v : Value} {xs : List Value} (h : w.ownsRow base e size v n xs) : ∃ a c, v = .slice a n c := by
  rcases h.2 with ⟨rfl, h0⟩ | ⟨g, cap, cur, rfl, _⟩
  · exact ⟨none, 0, by rw [h0]⟩
  · exact ⟨_, _, rfl⟩
theorem gra_set {w : World} {g : Nat} {x y : Value} {T : TypeId} (v : Value) (h : w.heap[g]? = some (.cells #[x, y] T (0, 0))) : (w.setCell ⟨g, 1, none⟩ v).heap[g]? = some (.cells #[x, v] T (0, 0)) := by
  have := heap_setCell_same w g 1 #[x, y] T v h
  simpa using this
set_option maxHeartbeats 4000000 in
set_option maxRecDepth 100000 in
theorem add_walk (g : Nat) (F : Nat → Prop) (G : Gra) (a : Option Addr) (n cp : Nat) (l : List PLink) (w : World) (h : GraAt w g F G) (hl : LinksArg w a n cp l) (hc : Clear a F ∨ l = []) (h0 : tryG G l = 0) :
    Calls Try.prog 14 #[.pointer (some ⟨g, 0, none⟩), .slice a n cp] w fun e w' => e = .returned (.int .i64 0) ∧ GraPost w g F (addG G l) w' := by
  obtain ⟨i0, hi, hz0, hz1, hz2⟩ := info_parts linkInfo
  obtain ⟨t1, t2, t3, t4⟩ := tryG_zero h0
  have HT := hide (try_calls g F G a n cp l w h hl)
  rw [h0] at HT
  have hlt := h.lt
  have hokA := addG_ok h.ok l
  have hA : addG G l = ⟨withC G.c l, G.ls ++ l⟩ := by unfold addG; rw [if_pos h0]
  rw [hA] at hokA ⊢
  obtain ⟨u, lv, Fu, hp, q1, q2, q3, q4⟩ := h
  have HP := hide hp
  have HQ := hide (And.intro q1 (And.intro q2 (And.intro q3 q4)))
  have HL := hide hl
  have HC := hide hc
  have HIN := hide t2
  have HOKA := hide hokA
  have hln := hl.1
  have hgs := hp.lt
  have hn120 : n ≤ 120 := by omega
  obtain ⟨m, hm⟩ : ∃ m, G.ls.length = m := ⟨_, rfl⟩
  rw [hm] at t1
  have HM := hide hm
  have HB0 : Hid (∀ w1, Below w.heap.size w w1 → Hid (UfAt w1 u Fu (withC G.c (l.take 0))) ∧ Hid (Frm Fu w w1)) := hide fun w1 hb => ⟨hide (hp.uf.below hb), hide (Frm.of_below hb)⟩
  clear hp hl hc t2 t3 t4 hokA h0 hA hm q1 q2 q3 q4 hlt
  go_enter Try.func14, Try.ntmps14
  go_wp2_with (go_at_call 22; refine Hid.out ?_)
  refine hide ?_
  refine HT.out.mono ?_
  rintro e w1 ⟨rfl, hb1⟩
  obtain ⟨HU1, HF1⟩ := HB0.out w1 hb1
  clear hb1 HT HB0
  go_wp2_with fail
  go_loopw [7, 16] (fun _ i wr => ∃ j : Nat, j ≤ n ∧ i = .int .i64 j ∧ Hid (UfAt wr u Fu (withC G.c (l.take j))) ∧ Hid (Frm Fu w wr)) (fun _ i _ => n - (intOf i).toNat)
  case atStart => exact ⟨0, by omega, rfl, HU1, HF1⟩
  case round =>
    clear HU1 HF1
    obtain ⟨j, hj, rfl, hu, hf⟩ := hrel
    have hCl : LinksIn wr a l := by
      rcases HC.out with hc | hc
      · exact HL.out.2.2.2.frm hf.out (fun x hx hF => hc x hx (HQ.out.2.1 _ hF))
      · rw [hc]; exact fun k x hk => by simp at hk
    by_cases hjn : j < n
    · obtain ⟨⟨xk, xs, xd⟩, hx⟩ : ∃ x, l[j]? = some x := ⟨l[j]'(by omega), List.getElem?_eq_getElem (by omega)⟩
      obtain ⟨b, off, rfl, hb0, g1, g2, g3⟩ := hCl j _ hx
      simp only at g1 g2 g3
      have htk := take_snoc hx
      have hlin := HIN.out _ (List.mem_of_getElem? hx)
      by_cases hk1 : xk = 1
      · subst hk1
        have HNX : Hid (withC G.c (l.take (j + 1)) = mergeC (withC G.c (l.take j)) ((withC G.c (l.take j)).f xs) ((withC G.c (l.take j)).f xd)) := hide (by rw [htk, withC_snoc, if_pos rfl])
        obtain ⟨w0, hw0⟩ : ∃ w0, wr.alloc (.cells #[.int .i64 1, .int .i64 xs, .int .i64 xd] 30) = w0 := ⟨_, rfl⟩
        have hb00 : Below wr.heap.size wr w0 := by rw [← hw0]; exact (Below.refl _ _).alloc (Nat.le_refl _) _
        have hc0 : w0.heap[wr.heap.size]? = some (.cells #[.int .i64 1, .int .i64 xs, .int .i64 xd] 30 (0, 0)) := by rw [← hw0]; exact heap_alloc_new wr _
        have hs0 : w0.heap.size = wr.heap.size + 1 := by rw [← hw0]; simp
        have hgw : w0.cell? ⟨g, 0, none⟩ = some (.pointer (some ⟨u, 0, none⟩)) := by
          have e0 := (hb00.block g (by have := hf.out.size; omega)).trans ((hf.out.block g hgs HP.out.gu).trans HP.out.cell)
          simp [World.cell?, e0]
        have hkc : w0.cell? ⟨wr.heap.size, 0, none⟩ = some (.int .i64 1) := by simp [World.cell?, hc0]
        obtain ⟨wd, hwd⟩ : ∃ wd, w0.drew = wd := ⟨_, rfl⟩
        have hb0d : Below w0.heap.size w0 wd := by rw [← hwd]; exact (Below.refl _ _).drew
        have hsd : wd.heap.size = w0.heap.size := by rw [← hwd]; rfl
        have hcd : wd.heap[wr.heap.size]? = some (.cells #[.int .i64 1, .int .i64 xs, .int .i64 xd] 30 (0, 0)) := (hb0d.block _ (by omega)).trans hc0
        have hgd := (hb0d.cell (p := ⟨g, 0, none⟩) (by show g < _; have := hf.out.size; omega)).trans hgw
        have HF : Hid (∀ W, New wd W → W.cell? ⟨g, 0, none⟩ = some (.pointer (some ⟨u, 0, none⟩)) ∧ W.cell? ⟨wr.heap.size, 1, none⟩ = some (.int .i64 xs) ∧ W.cell? ⟨wr.heap.size, 2, none⟩ = some (.int .i64 xd)) := hide fun W hW => by
          have hc1 := (Below.block hW wr.heap.size (by omega)).trans hcd
          exact ⟨(Below.cell hW (p := ⟨g, 0, none⟩) (by show g < _; have := hf.out.size; omega)).trans hgd, by simp [World.cell?, hc1], by simp [World.cell?, hc1]⟩
        have hu2 : UfAt (wd.alloc (.cells #[.int .i64 xs, .int .i64 xd] 3)) u Fu (withC G.c (l.take j)) := ((hu.out.below hb00).below hb0d).below ((Below.refl _ _).alloc (Nat.le_refl _) _)
        have HJ := hide (join_calls u Fu _ (some ⟨wd.heap.size, 0, none⟩) 2 2 [xs, xd] _ hu2 rfl (by omega) (by
            intro k x hk
            refine ⟨wd.heap.size, 0, rfl, by simp, ?_⟩
            match k, hk with
            | 0, hk => simp at hk; subst hk; simp
            | 1, hk => simp at hk; subst hk; simp) (fun y hy hF => by
              simp only [Option.some.injEq] at hy
              subst hy
              have h1 := HQ.out.2.2.2 _ (HQ.out.2.1 _ hF)
              have h2 := hf.out.size
              simp only at h1
              omega) (by
              intro i hi
              rw [withC_n]
              simp at hi
              rcases hi with rfl | rfl
              · exact hlin.1
              · exact hlin.2))
        rw [joinL_two] at HJ
        have HFF : Hid (∀ w3, Frm Fu (wd.alloc (.cells #[.int .i64 xs, .int .i64 xd] 3)) w3 → Frm Fu w w3) := hide fun w3 h3 =>
          (((hf.out.trans (Frm.of_below (S := Fu) hb00) fun _ => .inl).trans (Frm.of_below (S := Fu) hb0d) fun _ => .inl).trans ((Frm.refl Fu wd).alloc _) fun _ => .inl).trans h3 fun _ => .inl
        clear hu2 htk hlin hx hc0 hgw hb00 hcd hgd hb0d hsd
        go_upto_region 8 with fail
        clear hw0 hkc g1 g2 g3
        refine region_by (fun a b => a = b) way_eq 9 8 (fun W => New wd W) (by kernel_rfl) (by kernel_rfl) (fun _ _ d _ _ h => by cases d <;> exact h) (fun x y h hx => h ▸ hx) (by rw [hwd]; exact Below.refl _ _) (fun KT hKT => ?_)
        simp only [List.take_succ_cons, List.take_zero]
        refine Lex.want (v := ?_) (by rfl) (fun W hW => ?hd1) ?_
        case hd1 =>
          have hh := HF.out W hW
          clear hW
          go_split_ands
          go_simp
          first | rfl | exact way_new.refl _ | exact way_grow.refl _ | (refine ⟨?_, way_new.refl _⟩; rfl) | (refine ⟨?_, way_grow.refl _⟩; rfl)
        try simp only [Act.put, List.setIfInBounds_toArray, List.set_cons_zero, List.set_cons_succ, List.getElem_toArray, List.getElem_cons_zero, List.getElem_cons_succ]
        refine Lex.want (v := ?_) (by rfl) (fun W hW => ?hd2) ?_
        case hd2 =>
          have hh := HF.out W hW
          clear hW
          go_split_ands
          go_simp
          first | rfl | exact way_new.refl _ | exact way_grow.refl _ | (refine ⟨?_, way_new.refl _⟩; rfl) | (refine ⟨?_, way_grow.refl _⟩; rfl)
        try simp only [Act.put, List.setIfInBounds_toArray, List.set_cons_zero, List.set_cons_succ, List.getElem_toArray, List.getElem_cons_zero, List.getElem_cons_succ]
        refine Lex.want (v := ?_) (by rfl) (fun W hW => ?hd3) ?_
        case hd3 =>
          have hh := HF.out W hW
          clear hW
          go_split_ands
          go_simp
          first | rfl | exact way_new.refl _ | exact way_grow.refl _ | (refine ⟨?_, way_new.refl _⟩; rfl) | (refine ⟨?_, way_grow.refl _⟩; rfl)
        try simp only [Act.put, List.setIfInBounds_toArray, List.set_cons_zero, List.set_cons_succ, List.getElem_toArray, List.getElem_cons_zero, List.getElem_cons_succ]
        refine Lex.want (v := ?_) (by rfl) (fun W hW => ?hd4) ?_
        case hd4 =>
          have hh := HF.out W hW
          clear hW
          go_split_ands
          go_simp
          first | rfl | exact way_new.refl _ | exact way_grow.refl _ | (refine ⟨?_, way_new.refl _⟩; rfl) | (refine ⟨?_, way_grow.refl _⟩; rfl)
        try simp only [Act.put, List.setIfInBounds_toArray, List.set_cons_zero, List.set_cons_succ, List.getElem_toArray, List.getElem_cons_zero, List.getElem_cons_succ]
        refine Lex.want (v := ?_) (by rfl) (fun W hW => ?hd5) ?_
        case hd5 =>
          have hh := HF.out W hW
          clear hW
          go_split_ands
          go_simp
          first | rfl | exact way_new.refl _ | exact way_grow.refl _ | (refine ⟨?_, way_new.refl _⟩; rfl) | (refine ⟨?_, way_grow.refl _⟩; rfl)
        try simp only [Act.put, List.setIfInBounds_toArray, List.set_cons_zero, List.set_cons_succ, List.getElem_toArray, List.getElem_cons_zero, List.getElem_cons_succ]
        refine Lex.want (v := ?_) (by rfl) (fun W hW => ?hd6) ?_
        case hd6 =>
          have hh := HF.out W hW
          clear hW
          go_split_ands
          go_simp
          first | rfl | exact way_new.refl _ | exact way_grow.refl _ | (refine ⟨?_, way_new.refl _⟩; rfl) | (refine ⟨?_, way_grow.refl _⟩; rfl)
        try simp only [Act.put, List.setIfInBounds_toArray, List.set_cons_zero, List.set_cons_succ, List.getElem_toArray, List.getElem_cons_zero, List.getElem_cons_succ]
        refine Lex.want (v := ?_) (by rfl) (fun W hW => ?hd7) ?_
        case hd7 =>
          have hh := HF.out W hW
          clear hW
          go_split_ands
          go_simp
          first | rfl | exact way_new.refl _ | exact way_grow.refl _ | (refine ⟨?_, way_new.refl _⟩; rfl) | (refine ⟨?_, way_grow.refl _⟩; rfl)
        try simp only [Act.put, List.setIfInBounds_toArray, List.set_cons_zero, List.set_cons_succ, List.getElem_toArray, List.getElem_cons_zero, List.getElem_cons_succ]
        refine Lex.want (v := ?_) (by rfl) (fun W hW => ?hd8) ?_
        case hd8 =>
          have hh := HF.out W hW
          clear hW
          go_split_ands
          go_simp
          first | rfl | exact way_new.refl _ | exact way_grow.refl _ | (refine ⟨?_, way_new.refl _⟩; rfl) | (refine ⟨?_, way_grow.refl _⟩; rfl)
        try simp only [Act.put, List.setIfInBounds_toArray, List.set_cons_zero, List.set_cons_succ, List.getElem_toArray, List.getElem_cons_zero, List.getElem_cons_succ]
        refine Lex.nil (hKT.out _ ?_)
        clear hKT KT
        refine Reg.only 8 rfl (by decide) (by kernel_rfl) (fun W hW hT K hK => ?_)
        have hW : wd = W := hwd ▸ hW
        subst hW
        go_simp
        refine hK.out _ _ ((Below.refl _ _).alloc (Nat.le_refl _) _) (fun _ => ?_)
        clear hK K hT
        try simp only [Act.put, List.setIfInBounds_toArray, List.set_cons_zero, List.set_cons_succ, List.getElem_toArray, List.getElem_cons_zero, List.getElem_cons_succ]
        refine Reg.done (by kernel_rfl) (fun W hW hWT => ⟨by kernel_rfl, ?_⟩)
        simp only [List.drop_succ_cons, List.drop_zero]
        subst hW
        clear HF hWT
        go_wp2_with (go_at_call 43; refine HJ.out.mono ?_; rintro e w3 ⟨⟨jn, rfl⟩, hj1, hj2⟩; have HJ1 := hide hj1; have HJ2 := hide (HFF.out _ hj2); clear hj1 hj2)
        exact ⟨⟨j + 1, by omega, by go_num, by rw [HNX.out]; exact HJ1, HJ2⟩, by simp [intOf]; omega⟩
      · have HNX : Hid (withC G.c (l.take (j + 1)) = withC G.c (l.take j)) := hide (by rw [htk, withC_snoc, if_neg hk1])
        have e1 : (xk == 1) = false := by simpa using hk1
        have HU2 : Hid (UfAt (wr.alloc (.cells #[.int .i64 xk, .int .i64 xs, .int .i64 xd] 30)) u Fu (withC G.c (l.take j))) := hide (hu.out.below ((Below.refl _ _).alloc (Nat.le_refl _) _))
        have HFF : Hid (Frm Fu w (wr.alloc (.cells #[.int .i64 xk, .int .i64 xs, .int .i64 xd] 30))) := hide (hf.out.alloc _)
        clear htk hlin hx hk1
        go_wp2_with fail
        exact ⟨⟨j + 1, by omega, by go_num, by rw [HNX.out]; exact HU2, HFF⟩, by simp [intOf]; omega⟩
    · have hjj : j = n := by omega
      subst hjj
      have hpr : GraParts wr g u lv Fu ⟨withC G.c l, G.ls⟩ → True := fun _ => trivial
      have hcell := (hf.out.block g hgs HP.out.gu).trans HP.out.cell
      have hrow := row_frm HP.out.row hf.out HP.out.lu
      have hLr := hCl
      obtain ⟨la, lc, hlv, _⟩ := row_links HP.out.row
      have hg1 : wr.cell? ⟨g, 1, none⟩ = some (.slice la m lc) := by rw [← HM.out, ← hlv]; simp [World.cell?, hcell]
      have hfz : wr.frozen? ⟨g, 1, none⟩ = false := by simp [World.frozen?, hcell]
      have hgr : g < wr.heap.size := by have := hf.out.size; omega
      rw [HM.out] at hrow
      have HROW := hide hrow
      have HLR := hide hLr
      have HCELL := hide hcell
      have HLV := hide hlv
      have HE : Hid (UfAt wr u Fu (withC G.c l)) := hide (by
        have := hu.out
        rwa [List.take_of_length_le (by omega)] at this)
      have hnone := HL.out.2.2.1
      clear hpr hcell hrow hLr hu hlv
      go_wp2_with (at_builtin; refine Hid.out ?_)
      refine hide ?_
      refine wpList_append_cells_at rfl (.tmp 38) (.tmp 39) _ 30 rfl 0 i0 _ 3 24 Try.underlying22 hi hz0 hz1 hz2 rfl (by decide) lv m (G.ls.flatMap lcells) (by rw [HLV.out, HM.out]; rfl) HROW.out a j cp (l.flatMap lcells) rfl (by rw [flat_length lcells 3 lcells_len, hln]) hnone HLR.out.cells (lcells_all l) (by unfold maxLen; omega) (by omega) (by omega) ?_
      intro v2 w2 hown2 hgrow2 hat2
      obtain ⟨a2, c2, rfl⟩ := own_form hown2
      have hcell2 := (hgrow2.block g hgr (fun e => HP.out.lg e.symm)).trans HCELL.out
      have hg2 : w2.cell? ⟨g, 1, none⟩ = some lv := by simp [World.cell?, hcell2]
      have hfz2 : w2.frozen? ⟨g, 1, none⟩ = false := by simp [World.frozen?, hcell2]
      have HO2 := hide hown2
      have HG2 := hide hgrow2
      have HAT := hide hat2
      have HC2 := hide hcell2
      clear hown2 hgrow2 hat2 hcell2
      go_wp2_with fail
      go_ret
      refine ⟨rfl, ?_⟩
      have hf2 : Frm (fun k => lv.ownBlock = some k) wr w2 := (Frm.refl _ _).grown HG2.out fun q hq => .inl hq
      have hsz := hf.out.size
      have hne : (Value.slice a2 (m + j) c2).ownBlock ≠ some g := by
        rcases HAT.out with e | e
        · rw [e]; exact HP.out.lg
        · rw [e]; simp; omega
      have hnu : ∀ b, (Value.slice a2 (m + j) c2).ownBlock = some b → ¬ Fu b := fun b hb hF => by
        rcases HAT.out with e | e
        · exact HP.out.lu b (by rw [← e]; exact hb) hF
        · rw [e] at hb
          simp only [Option.some.injEq] at hb
          have := HQ.out.2.2.2 b (HQ.out.2.1 b hF)
          omega
      refine ⟨fun k => F k ∨ (Value.slice a2 (m + j) c2).ownBlock = some k, ⟨u, .slice a2 (m + j) c2, Fu, ⟨gra_set _ HC2.out, ?_, ?_, HP.out.gu, hne, hnu, HOKA.out⟩, .inl HQ.out.1, fun k hk => .inl (HQ.out.2.1 k hk), fun b hb => .inr hb, fun k hk => ?_⟩, ?_, fun k hk => ?_⟩
      · exact (HE.out.frm hf2 (fun k hk e => HP.out.lu k e hk)).frm ((Frm.refl (fun k => k = g) w2).setCell (.inl rfl) _) (fun k hk e => HP.out.gu (e ▸ hk))
      · have := ownsRow_setCell_other HO2.out (a := ⟨g, 1, none⟩) hne (.slice a2 (m + j) c2)
        have hlen : (G.ls ++ l).length = m + j := by rw [List.length_append, HM.out, hln]
        rw [hlen, List.flatMap_append]
        exact this
      · rcases hk with hk | hk
        · have h1 := HQ.out.2.2.2 k hk
          have h2 := hf2.size
          simp [World.setCell]; omega
        · have := (HO2.out.lt k hk).2
          simpa [World.setCell] using this
      · refine (((hf.out.mono (S' := F) (fun k hk => .inl (HQ.out.2.1 k hk))).trans hf2 (fun k hk => .inl (HQ.out.2.2.1 k hk)))).setCell (.inl HQ.out.1) _
      · rcases hk with hk | hk
        · exact .inl hk
        · rcases HAT.out with e | e
          · rw [e] at hk; exact .inl (HQ.out.2.2.1 k hk)
          · rw [e] at hk
            simp only [Option.some.injEq] at hk
            exact .inr (by omega)
theorem add_calls {g : Nat} {F : Nat → Prop} {G : Gra} {a : Option Addr} {n cp : Nat} {l : List PLink} {w : World} (h : GraAt w g F G) (hl : LinksArg w a n cp l) (hc : Clear a F ∨ l = []) :
    Calls Try.prog 14 #[.pointer (some ⟨g, 0, none⟩), .slice a n cp] w fun e w' => e = .returned (.int .i64 (tryG G l)) ∧ GraPost w g F (addG G l) w' := by
  by_cases h0 : tryG G l = 0
  · rw [h0]
    exact add_walk g F G a n cp l w h hl hc h0
  · rw [addG_same h0]
    have HT := hide (try_calls g F G a n cp l w h hl)
    have HG := hide h
    obtain ⟨t, ht⟩ : ∃ t, tryG G l = t := ⟨_, rfl⟩
    rw [ht] at HT h0 ⊢
    clear h hl hc ht
    have h1 : (t != 0) = true := by simpa using h0
    go_enter Try.func14, Try.ntmps14
    go_wp2_with (go_at_call 22; refine HT.out.mono ?_; rintro e w1 ⟨rfl, hb1⟩; have HB1 := hide hb1; clear hb1)
    go_ret
    exact ⟨rfl, GraPost.same HG.out HB1.out⟩
end Go.Proofs.Ytpkhmhfgnpnpfaa

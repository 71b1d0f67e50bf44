/- log.Open walked. -/
import Derived.Test.YtldpflijgbcbhaaLgIn
import Derived.Test.YtldpflijgbcbhaaLgRb
import Derived.Deep.CutBlock
import Derived.Deep.DeepCutAuto
namespace Go.Proofs.Ytldpflijgbcbhaa.lg
open Go.RowKit

/-- the blocks one behind the other: so far -/
structure OutS (w wr : World) (p d fr mn k : Nat) (blk : Nat → Option Chk) (o : OpS) : Prop where
  op : OpAt w wr p d fr mn (mkL o [])
  og : OG blk mn k o
  len : o.stream.length ≤ 60 * k
  ep : o.epoch ≤ 65535
  last : o.last ≤ 65535
  safe : o.safe < 2
/-- the blocks have been looked at -/
structure DoneS (w wr : World) (p d fr mn : Nat) (blk : Nat → Option Chk) (o : OpS) : Prop where
  op : OpAt w wr p d fr mn (mkL o [])
  eq : o.stream = (openGo blk (mn + 2) 0 op0).stream ∧ o.epoch = (openGo blk (mn + 2) 0 op0).epoch ∧ o.bare = (openGo blk (mn + 2) 0 op0).bare ∧ o.safe = (openGo blk (mn + 2) 0 op0).safe
  len : o.stream.length ≤ 12300
  ep : o.epoch ≤ 65535
set_option maxRecDepth 100000 in
set_option maxHeartbeats 16000000 in
theorem open_any (B : Nat) (F : Nat → Prop) (fr mn : Nat) (w : World) (d : Nat) (M : DiskM) (h : DiskF B F w d M) (h1 : 1 ≤ mn) (h2 : mn ≤ 200) (h3 : fr + mn ≤ M.now.length) (hT : ∀ i c, i < 2 → blkOf M.now fr mn i = some c → c.used < 60) :
    Calls Try.prog 20 #[.pointer (some ⟨d, 0, none⟩), .int .i64 fr, .int .i64 mn] w (fun e w' => e = .returned (.tuple #[.pointer (some ⟨w.heap.size, 0, none⟩), .nilIface]) ∧ OpAt w w' w.heap.size d fr mn (openS (blkOf M.now fr mn) mn)) := by
  have hw := where_any B F fr mn w d M h
  rw [whereC_ok h1 h2 h3, errV_zero] at hw
  have hlen := (diskF_len h).1
  have HD := Lib.hid h
  have hfr : fr ≤ 200 := by omega
  obtain ⟨p, hp⟩ : ∃ p, p = w.heap.size := ⟨_, rfl⟩
  obtain ⟨blk, hblk⟩ : ∃ blk, blk = blkOf M.now fr mn := ⟨_, rfl⟩
  obtain ⟨W1, hW1⟩ : ∃ W1, W1 = w.alloc (.cells #[.pointer (some ⟨d, 0, none⟩), .int .i64 fr, .int .i64 mn, .slice none 0 0, .slice none 0 0, .int .i64 0, .int .i64 0, .bool false, .bool false, .bool false] 97) := ⟨_, rfl⟩
  have HS1 : Hid (OutS w W1 p d fr mn 0 blk op0) := ⟨by rw [hW1, hp]; exact op_start, OG.start _ _, Nat.zero_le _, Nat.zero_le _, Nat.zero_le _, by decide⟩
  have HW1 := Lib.hid hW1
  have HP := Lib.hid hp
  have HTT : Hid (∀ i c, i < 2 → blk i = some c → c.used < 60) := by rw [hblk]; exact hT
  have HNO : Hid (∀ i, mn ≤ i → blk i = none) := fun i hi => by rw [hblk]; exact blkOf_no (by omega)
  have HEP : Hid (∀ i c, blk i = some c → c.epoch ≤ 65535 ∧ c.used ≤ 60 ∧ c.index ≤ 255 ∧ c.bytes.length ≤ 60) := fun i c hc => by rw [hblk] at hc; exact blkOf_ep hc
  -- a block is read
  have HRD : Hid (∀ i wr, Below w.heap.size w wr → HeadL wr p d fr mn → i ≤ 1000 → Calls Try.prog 54 #[.pointer (some ⟨p, 0, none⟩), .int .i64 (i : Nat)] wr (ReadPostL wr (blk i))) := fun i wr hb hh hi => by
    rw [hblk]; exact read_log B F i wr p d fr mn M (HD.out.later hb) hh h3 hi
  rw [← hblk, ← hp]
  have HBLK := Lib.hid hblk
  clear h hT hlen hblk hW1 hp HD
  go_enter Try.func20, Try.ntmps20
  go_wp2_with fail
  refine hw.mono ?_
  rintro e w1 ⟨rfl, rfl⟩
  clear hw
  go_upto_block 0 with (fail)
  rw [← HW1.out, ← HP.out]
  go_cut [] (fun wx => ∃ o, Hid (DoneS w wx p d fr mn blk o))
  case first =>
    go_wp2_with fail
    go_loopw [10, 11] (fun la z wr => ∃ (k : Nat) (o : OpS), z = .int .i64 (k : Int) ∧ la = .int .i64 (o.last : Int) ∧ Hid (OutS w wr p d fr mn k blk o)) (fun _ z _ => mn + 1 - (intOf z).toNat)
    case atStart => exact ⟨0, op0, rfl, rfl, HS1.out⟩
    case round =>
      obtain ⟨k, o, rfl, rfl, HO⟩ := hrel
      have hkm := HO.out.og.le
      have hla := HO.out.last
      obtain ⟨la, hlae⟩ : ∃ la, la = o.last := ⟨_, rfl⟩
      rw [← hlae] at hla
      have HLA := Lib.hid hlae
      have hob := HO.out.op.below
      obtain ⟨be, hbe⟩ : ∃ be, be = wr.heap.size := ⟨_, rfl⟩
      obtain ⟨W3, hW3⟩ : ∃ W3, W3 = (wr.alloc (.cells #[.int .i64 0, .int .i64 0, .int .i64 (-1), .slice none 0 0] 99)).alloc (.cells #[.int .i64 0, .int .i64 1, .int .i64 (2 + (k : Int))] 3) := ⟨_, rfl⟩
      have HI0 : Hid (InS w W3 p d fr mn be (be + 1) k la 0 o.epoch blk (mkL o []) (-1)) := by
        show InS _ _ _ _ _ _ _ _ _ _ _ _ _ _ _
        rw [hW3, hbe]
        exact InS.start HO.out.op HO.out.op.head.lt hob.size
      have HW3 := Lib.hid hW3
      have HBE := Lib.hid hbe
      have HE0 : Hid (o.epoch ≤ 65535) := HO.out.ep
      have HEK : Hid (epK blk k o.epoch ≤ 65535) := by show _ ≤ _; rw [HBLK.out]; exact epN_le HO.out.ep 3
      rw [← hlae]
      clear hW3 hbe hob hlae
      go_upto_block 2 with (fail)
      rw [← HW3.out, ← HBE.out]
      go_cut [13] (fun a wx => ∃ a' : Int, a = .int .i64 a' ∧ Hid (InS w wx p d fr mn be (be + 1) k la 3 o.epoch blk (mkL o []) a'))
      case first =>
        refine piece_use ?_
        refine in_block h2 hkm hla HEP HRD HI0 (Lib.hid ?_)
        intro a' y15 y16 y17 y42 y43 y44 y45 y46 y47 y48 y49 y50 y51 y52 y53 y54 y55 y56 y57 y58 y59 y60 y61 y62 y63 y64 y65 y66 y67 y68 y69 y70 y71 y72 y73 y74 y75 y76 y77 y78 y79 y80 y81 y82 y83 y84 y85 y86 y87 y88 y89 y90 y91 y92 y93 y94 y95 y96 y97 y98 y99 y100 y101 y102 y103 y104 y105 y106 y107 wx HI
        go_wp2_with fail
        go_meet
        exact ⟨a', rfl, HI.out⟩
      case rest =>
        obtain ⟨a', rfl, HI⟩ := hcut
        obtain ⟨w5, hw5⟩ : ∃ w5 : World, w5 = wc := ⟨_, rfl⟩
        subst hw5
        clear HI0
        cases hp : pick blk k la with
        | none =>
          have hbest := HI.out.best
          rw [pick_lookN, hp] at hbest
          obtain ⟨_, _, _, _, _, _, ⟨_, _, _, ha⟩, _⟩ := hbest
          subst ha
          have HDONE : Hid (∃ o, Hid (DoneS w w5 p d fr mn blk o)) := by
            have hg := HO.out.og.none (by rw [← HLA.out]; exact hp)
            refine ⟨{ o with epoch := epK blk k o.epoch }, ⟨HI.out.op, by rw [hg]; exact ⟨rfl, rfl, rfl, rfl⟩, by have := HO.out.len; show o.stream.length ≤ _; omega, HEK.out⟩⟩
          clear hp
          go_wp2_with fail
          go_meet
          exact HDONE.out
        | some q =>
          obtain ⟨c, i⟩ := q
          have hpo := pick_of hp
          have hce := HEP.out i c hpo.2.1
          have hol := HO.out.len
          obtain ⟨ao, cap, sp, len, cp, ao2, cap2, w6, p4, hbb, hr6, q4, f4, hop6, hb6⟩ := HI.out.grow hp (by omega) hce.2.2.2
          obtain ⟨n2, hn2⟩ : ∃ n2, n2 = (o.stream ++ c.bytes).length := ⟨_, rfl⟩
          rw [← hn2] at hr6 hop6 hb6
          clear hn2
          obtain ⟨W6, hW6⟩ : ∃ W6, W6 = w6.setCell ⟨p, 4, none⟩ (.slice ao2 n2 cap2) := ⟨_, rfl⟩
          rw [← hW6] at hop6 hb6
          have b3 : w5.cell? ⟨be, 3, none⟩ = some (.slice sp len cp) := cell_of_heap hbb 3
          have d0 : W6.cell? ⟨be, 0, none⟩ = some (.int .i64 c.used) := cell_of_heap hb6 0
          have d2 : W6.cell? ⟨be, 2, none⟩ = some (.int .i64 c.epoch) := cell_of_heap hb6 2
          have k6 := hop6.cells.c6
          have k8 := hop6.cells.c8
          have y6 := hop6.cells.fz 6
          have y8 := hop6.cells.fz 8
          have hpb : p < be := HI.out.lt.2.1
          have ha : a' = (i : Int) := by
            have hbest := HI.out.best
            rw [pick_lookN, hp] at hbest
            obtain ⟨_, _, _, _, _, _, ⟨_, _, _, ha⟩, _⟩ := hbest
            exact ha
          subst ha
          have hi2 : i ≤ 2 + k := hpo.1
          have HW6 := Lib.hid hW6
          have HOP6 := Lib.hid hop6
          have HP2 := Lib.hid hp
          clear hW6 hop6 hp hb6 hbb HI
          go_upto_region 19 with (fail)
          go_cut [] (fun wx => wx = W6)
          case first =>
            go_region_law
              (refine step_append_run (by rfl) _ _ _ _ (by rfl) _ _ (by rfl) (by rfl) _ _ hr6 ?_)
            all_goals go_wp2_with fail
            all_goals go_meet
            all_goals exact HW6.out.symm
          case rest =>
            rw [hcut]
            clear q4 f4 hr6 p4 b3
            by_cases hi : i < 2
            · have hu := HTT.out i c hi hpo.2.1
              have HN : Hid (∃ o, Hid (DoneS w ((W6.setCell ⟨p, 8, none⟩ (.bool false)).setCell ⟨p, 6, none⟩ (.int .i64 (i : Int))) p d fr mn blk o)) := by
                have hg := HO.out.og.short (p := (c, i)) (by rw [← HLA.out]; exact HP2.out) hu
                have e : mkL (opNext o (epK blk k o.epoch) (c, i)) [] = { { { mkL o [] with epoch := epK blk k o.epoch, stream := o.stream ++ c.bytes } with bare := false } with safe := i } := by
                  simp [mkL, opNext, hi]
                refine ⟨opNext o (epK blk k o.epoch) (c, i), ⟨by rw [e]; exact (HOP6.out.own8 false).own6 i, by rw [hg]; exact ⟨rfl, rfl, rfl, rfl⟩, ?_, HEK.out⟩⟩
                show (o.stream ++ c.bytes).length ≤ _
                rw [List.length_append]; omega
              clear HP2 HO
              go_wp2_with fail
              go_meet
              have hdb : decide ((2 : Int) ≤ (i : Int)) = false := decide_eq_false (by omega)
              first
                | exact HN.out
                | (rw [hdb]; exact HN.out)
            · have e : mkL (opNext o (epK blk k o.epoch) (c, i)) [] = { { mkL o [] with epoch := epK blk k o.epoch, stream := o.stream ++ c.bytes } with bare := true } := by
                simp [mkL, opNext, hi]; omega
              have HE := Lib.hid e
              clear e
              by_cases hu : c.used < 60
              · have HN : Hid (∃ o, Hid (DoneS w (W6.setCell ⟨p, 8, none⟩ (.bool true)) p d fr mn blk o)) := by
                  have hg := HO.out.og.short (p := (c, i)) (by rw [← HLA.out]; exact HP2.out) hu
                  refine ⟨opNext o (epK blk k o.epoch) (c, i), ⟨by rw [HE.out]; exact HOP6.out.own8 true, by rw [hg]; exact ⟨rfl, rfl, rfl, rfl⟩, ?_, HEK.out⟩⟩
                  show (o.stream ++ c.bytes).length ≤ _
                  rw [List.length_append]; omega
                clear HP2 HO HE
                go_wp2_with fail
                go_meet
                exact HN.out
              · have hmore := HO.out.og.more (p := (c, i)) (by rw [← HLA.out]; exact HP2.out) hu HTT.out HNO.out
                have hkm2 := hmore.1
                have HN : Hid (OutS w (W6.setCell ⟨p, 8, none⟩ (.bool true)) p d fr mn (k + 1) blk (opNext o (epK blk k o.epoch) (c, i))) := by
                  refine ⟨by rw [HE.out]; exact HOP6.out.own8 true, hmore.2, ?_, HEK.out, hce.1, ?_⟩
                  · show (o.stream ++ c.bytes).length ≤ _
                    rw [List.length_append]; omega
                  · show (if i < 2 then i else o.safe) < 2
                    rw [if_neg hi]; exact HO.out.safe
                clear hmore HP2 HO HE
                go_wp2_with fail
                go_roundw
                case rel => exact ⟨k + 1, opNext o (epK blk k o.epoch) (c, i), by go_num, rfl, HN⟩
                case measure => simp [intOf]; omega
  case rest =>
    obtain ⟨o, HD1⟩ := hcut
    obtain ⟨w3, hw3⟩ : ∃ w3 : World, w3 = wc := ⟨_, rfl⟩
    subst hw3
    clear HS1 HW1
    go_upto_block 4 with (fail)
    go_cut [] (fun wx => Hid (OpAt w wx p d fr mn { mkL o [] with epoch := epAll blk mn o.epoch }))
    case first =>
      go_wp2_with fail
      go_loopw [137] (fun z wr => ∃ (j : Nat), j ≤ mn ∧ z = .int .i64 (j : Int) ∧ Hid (OpAt w wr p d fr mn { mkL o [] with epoch := epAll blk j o.epoch })) (fun z _ => mn - (intOf z).toNat)
      case atStart => exact ⟨0, by omega, rfl, HD1.out.op⟩
      case round =>
        obtain ⟨j, hj, rfl, HI⟩ := hrel
        by_cases hjm : j < mn
        · have hrd := HRD.out j wr HI.out.below HI.out.head (by omega)
          go_wp2_with fail
          refine hrd.mono ?_
          rintro e w9 hpost
          obtain ⟨hb9, u, x, ep, sp, len, cp, ok, rfl, hnum⟩ := read_num hpost
          clear hpost hrd
          obtain ⟨e1, he1⟩ : ∃ e1, e1 = epAll blk j o.epoch := ⟨_, rfl⟩
          obtain ⟨X, hX⟩ : ∃ X, X = epAll blk (j + 1) o.epoch := ⟨_, rfl⟩
          have hXm : X = max e1 ep := by rw [hX, he1, ← hnum.1]; rfl
          have hmx : (if e1 < ep then (ep : Int) else (e1 : Int)) = (X : Int) := by split <;> omega
          obtain ⟨V, hV⟩ : ∃ V, V = ((w9.setCell ⟨p, 5, none⟩ (.int .i64 (X : Int))).alloc (.cells #[.int .i64 u, .int .i64 x, .int .i64 ep, .slice sp len cp] 99)).drew := ⟨_, rfl⟩
          have h9 := HI.out.later hb9
          have c5 : w9.cell? ⟨p, 5, none⟩ = some (.int .i64 e1) := by rw [he1]; exact h9.cells.c5
          have hp9 : p < w9.heap.size := h9.head.lt
          have f5 : w9.frozen? ⟨p, 5, none⟩ = false := h9.cells.fz 5
          have HN : Hid (OpAt w V p d fr mn { mkL o [] with epoch := epAll blk (j + 1) o.epoch }) := by
            have h10 := h9.own5 X
            rw [hX] at h10
            show OpAt _ _ _ _ _ _ _
            rw [hV, hX]
            exact (h10.later ((Below.refl _ _).alloc (Nat.le_refl _) _)).drew
          have HV := Lib.hid hV
          clear hV hX hXm he1 hnum hb9 h9 HI
          go_wp2_with fail
          go_big_region
          rw [← HV.out]
          clear c5 f5 hp9 hmx
          go_wp2_with fail
          go_roundw
          case rel => exact ⟨j + 1, by omega, by go_num, HN⟩
          case measure => simp [intOf]; omega
        · obtain rfl : j = mn := by omega
          go_wp2_with fail
          go_meet
          exact HI
    case rest =>
      obtain ⟨w4, hw4⟩ : ∃ w4 : World, w4 = wc := ⟨_, rfl⟩
      subst hw4
      have HO4 := hcut
      obtain ⟨E, hE⟩ : ∃ E, E = epAll blk mn o.epoch := ⟨_, rfl⟩
      have hEb : E ≤ 65535 := by rw [hE, HBLK.out]; exact epAll_le' HD1.out.ep mn
      have c5 : w4.cell? ⟨p, 5, none⟩ = some (.int .i64 E) := by rw [hE]; exact HO4.out.cells.c5
      have f5 := HO4.out.cells.fz 5
      obtain ⟨W5, hW5⟩ : ∃ W5, W5 = w4.setCell ⟨p, 5, none⟩ (.int .i64 ((E : Int) + 1)) := ⟨_, rfl⟩
      have HO5 : Hid (OpAt w W5 p d fr mn { mkL o [] with epoch := E + 1 }) := by
        have := HO4.out.own5 (E + 1)
        rw [Int.natCast_add] at this
        show OpAt _ _ _ _ _ _ _
        rw [hW5]
        exact this
      have hlen5 := HD1.out.len
      obtain ⟨n, hn⟩ : ∃ n, n = o.stream.length := ⟨_, rfl⟩
      rw [← hn] at hlen5
      have HN := Lib.hid hn
      have HE := Lib.hid hE
      have HW5 := Lib.hid hW5
      clear hn hE hW5 HO4 hcut
      go_upto_block 6 with (fail)
      rw [← HW5.out]
      clear c5 f5
      go_cut [21] (fun z wx => ∃ (a : Nat) (rs : List (List UInt8)), a ≤ n ∧ z = .int .i64 (a : Int) ∧ Hid (parse o.stream.length o.stream = rs ∧ o.stream.take a = enc rs) ∧ Hid (OpAt w wx p d fr mn { mkL o rs with epoch := E + 1 }))
      case first =>
        refine piece_use ?_
        refine rec_block HN hlen5 hEb HO5 (Lib.hid ?_)
        intro a rs y22 y164 y165 y166 y167 y168 y169 y170 y171 y172 y173 y174 y175 y176 y177 y178 y179 y180 y181 y182 y183 y184 y185 y186 y187 y188 y189 y190 y191 y192 y193 y194 y195 y196 y197 y198 y199 y200 y201 y202 y203 y204 y205 y206 y207 y208 y209 y210 y211 y212 y213 y214 y215 y216 y217 y218 y219 y220 y221 y222 y223 y224 y225 y226 y227 y228 y229 y230 y231 y232 y233 wx han HST HOP
        go_wp2_with fail
        go_meet
        exact ⟨a, rs, han, rfl, HST, HOP⟩
      case rest =>
        obtain ⟨a, rs, han, rfl, HST, HOP⟩ := hcut
        obtain ⟨w6, hw6⟩ : ∃ w6 : World, w6 = wc := ⟨_, rfl⟩
        subst hw6
        have HOPS : Hid (∀ b, b = bareOf o a → openS blk mn = ⟨rs, o.stream.take a, E + 1, o.safe, false, b, false⟩) := fun b hb => by
          rw [HE.out]
          exact openS_is HD1.out.eq HST.out.1 HST.out.2 (by rw [← HN.out]; exact han) hb
        have f8 := HOP.out.cells.fz 8
        have f4 := HOP.out.cells.fz 4
        have p8 : w6.cell? ⟨p, 8, none⟩ = some (.bool o.bare) := HOP.out.cells.c8
        rcases HOP.out.stream with ⟨hnil, p4⟩ | ⟨g, cap, p4x, _, _, hncapx, _⟩
        · have hn0 : n = 0 := by rw [HN.out, show o.stream = [] from hnil]; rfl
          have ha0 : a = 0 := by omega
          subst ha0
          subst hn0
          have HFIN : Hid (Hid (OpAt w ((w6.setCell ⟨p, 8, none⟩ (.bool false)).setCell ⟨p, 4, none⟩ (.slice none 0 0)) p d fr mn (openS blk mn))) := by
            show OpAt _ _ _ _ _ _ _
            rw [HOPS.out false (by simp [bareOf])]
            have h8 := HOP.out.own8 false
            have h9 := h8.nil4 (by rw [World.cell?_setCell_other _ _ _ _ (by intro he; injection he with _ he _; exact absurd he (by decide))]; exact p4) hnil
            rw [show o.stream.take 0 = [] from rfl]
            exact h9
          clear HOPS HST
          cases hbb : o.bare with
          | false =>
            rw [hbb] at p8
            go_wp2_with fail
            exact bodyPost_ret (v := .tuple #[.pointer (some ⟨p, 0, none⟩), .nilIface]) (by simp [results, Try.results20, go_sem]) rfl ⟨rfl, HFIN.out.out⟩
          | true =>
            rw [hbb] at p8
            go_wp2_with fail
            exact bodyPost_ret (v := .tuple #[.pointer (some ⟨p, 0, none⟩), .nilIface]) (by simp [results, Try.results20, go_sem]) rfl ⟨rfl, HFIN.out.out⟩
        · have p4 : w6.cell? ⟨p, 4, none⟩ = some (.slice (some ⟨g, 0, none⟩) n cap) := by rw [HN.out]; exact p4x
          have hncap : n ≤ cap := by rw [HN.out]; exact hncapx
          have HFIN : Hid (∀ b, b = bareOf o a → Hid (OpAt w ((w6.setCell ⟨p, 8, none⟩ (.bool b)).setCell ⟨p, 4, none⟩ (.slice (some ⟨g, 0, none⟩) a cap)) p d fr mn (openS blk mn))) := fun b hb => by
            show OpAt _ _ _ _ _ _ _
            rw [HOPS.out b hb]
            have h8 := HOP.out.own8 b
            exact h8.cut (g := g) (cap := cap) (by rw [World.cell?_setCell_other _ _ _ _ (by intro he; injection he with _ he _; exact absurd he (by decide))]; exact p4x) (by show a ≤ o.stream.length; rw [← HN.out]; exact han)
          have hnl : o.stream.length = n := HN.out.symm
          have HNL := Lib.hid hnl
          clear HOPS HST p4x hncapx hnl
          cases hbb : o.bare with
          | false =>
            rw [hbb] at p8
            have HBB := Lib.hid hbb
            clear hbb
            by_cases g1 : a / 60 < n / 60
            · by_cases g2 : a % 60 = 0
              · skip
                have HF := HFIN.out false (by simp [bareOf, HBB.out, HNL.out, g1, g2])
                have hm : ((a : Int) % 60 != 0) = false := by simp; omega
                clear HFIN
                go_wp2_with fail
                exact bodyPost_ret (v := .tuple #[.pointer (some ⟨p, 0, none⟩), .nilIface]) (by simp [results, Try.results20, go_sem]) rfl ⟨rfl, HF.out⟩
              · skip
                have HF := HFIN.out true (by simp [bareOf, HBB.out, HNL.out, g1, g2])
                have hm : ((a : Int) % 60 != 0) = true := by simp; omega
                clear HFIN
                go_wp2_with fail
                exact bodyPost_ret (v := .tuple #[.pointer (some ⟨p, 0, none⟩), .nilIface]) (by simp [results, Try.results20, go_sem]) rfl ⟨rfl, HF.out⟩
            · by_cases g2 : a % 60 = 0
              · skip
                have HF := HFIN.out false (by simp [bareOf, HBB.out, HNL.out, g1, g2])
                have hm : ((a : Int) % 60 != 0) = false := by simp; omega
                clear HFIN
                go_wp2_with fail
                exact bodyPost_ret (v := .tuple #[.pointer (some ⟨p, 0, none⟩), .nilIface]) (by simp [results, Try.results20, go_sem]) rfl ⟨rfl, HF.out⟩
              · skip
                have HF := HFIN.out false (by simp [bareOf, HBB.out, HNL.out, g1, g2])
                have hm : ((a : Int) % 60 != 0) = true := by simp; omega
                clear HFIN
                go_wp2_with fail
                exact bodyPost_ret (v := .tuple #[.pointer (some ⟨p, 0, none⟩), .nilIface]) (by simp [results, Try.results20, go_sem]) rfl ⟨rfl, HF.out⟩
          | true =>
            rw [hbb] at p8
            have HBB := Lib.hid hbb
            clear hbb
            by_cases g2 : a % 60 = 0
            · skip
              have HF := HFIN.out false (by simp [bareOf, HBB.out, HNL.out, g2])
              have hm : ((a : Int) % 60 != 0) = false := by simp; omega
              clear HFIN
              go_wp2_with fail
              exact bodyPost_ret (v := .tuple #[.pointer (some ⟨p, 0, none⟩), .nilIface]) (by simp [results, Try.results20, go_sem]) rfl ⟨rfl, HF.out⟩
            · skip
              have HF := HFIN.out true (by simp [bareOf, HBB.out, HNL.out, g2])
              have hm : ((a : Int) % 60 != 0) = true := by simp; omega
              clear HFIN
              go_wp2_with fail
              exact bodyPost_ret (v := .tuple #[.pointer (some ⟨p, 0, none⟩), .nilIface]) (by simp [results, Try.results20, go_sem]) rfl ⟨rfl, HF.out⟩
end Go.Proofs.Ytldpflijgbcbhaa.lg
